/- The types of the program, and its functions as the code computes them, each proved. -/
import Derived.Test.YtoemkinhdomnpaaXCacheCostsKz
import Derived.Test.YtoemkinhdomnpaaProg
set_option linter.unusedVariables false
set_option linter.unusedSimpArgs false
set_option maxRecDepth 20000
set_option maxHeartbeats 40000000
namespace Go.SK.T
open Go Go.SK Go.Proofs
def tt : TT := [(1, ⟨.func, 1, 8, .nilFunc⟩),
  (2, ⟨.int .i64, 1, 8, .int .i64 0⟩),
  (3, ⟨.int .i64, 1, 8, .int .i64 0⟩),
  (4, ⟨.bool, 1, 1, .bool false⟩),
  (5, ⟨.int .u8, 1, 1, .int .u8 0⟩),
  (6, ⟨.int .u8, 1, 1, .int .u8 0⟩),
  (9, ⟨.str, 1, 16, .string ⟨⟨[]⟩⟩⟩),
  (10, ⟨.str, 1, 16, .string ⟨⟨[]⟩⟩⟩),
  (11, ⟨.str, 1, 16, .string ⟨⟨[]⟩⟩⟩),
  (12, ⟨.int .u64, 1, 8, .int .u64 0⟩),
  (15, ⟨.ptr 244, 1, 8, .pointer none⟩),
  (16, ⟨.ptr 247, 1, 8, .pointer none⟩),
  (17, ⟨.ptr 255, 1, 8, .pointer none⟩),
  (20, ⟨.iface, 1, 16, .nilIface⟩),
  (21, ⟨.int .i32, 1, 4, .int .i32 0⟩),
  (22, ⟨.slice 30, 1, 24, .slice none 0 0⟩),
  (23, ⟨.int .u32, 1, 4, .int .u32 0⟩),
  (24, ⟨.ptr 51, 1, 8, .pointer none⟩),
  (25, ⟨.int .i64, 1, 8, .int .i64 0⟩),
  (27, ⟨.func, 1, 8, .nilFunc⟩),
  (28, ⟨.slice 5, 1, 24, .slice none 0 0⟩),
  (29, ⟨.struct [(3, 0, 1), (23, 1, 1), (28, 2, 1)], 3, 40, .agg #[.int .i64 0, .int .u32 0, .slice none 0 0]⟩),
  (30, ⟨.struct [(3, 0, 1), (23, 1, 1), (28, 2, 1)], 3, 40, .agg #[.int .i64 0, .int .u32 0, .slice none 0 0]⟩),
  (31, ⟨.func, 1, 8, .nilFunc⟩),
  (33, ⟨.func, 1, 8, .nilFunc⟩),
  (34, ⟨.func, 1, 8, .nilFunc⟩),
  (35, ⟨.func, 1, 8, .nilFunc⟩),
  (36, ⟨.func, 1, 8, .nilFunc⟩),
  (37, ⟨.func, 1, 8, .nilFunc⟩),
  (38, ⟨.slice 9, 1, 24, .slice none 0 0⟩),
  (39, ⟨.struct [(3, 0, 1), (38, 1, 1), (3, 2, 1), (3, 3, 1)], 4, 48, .agg #[.int .i64 0, .slice none 0 0, .int .i64 0, .int .i64 0]⟩),
  (40, ⟨.struct [(3, 0, 1), (38, 1, 1), (3, 2, 1), (3, 3, 1)], 4, 48, .agg #[.int .i64 0, .slice none 0 0, .int .i64 0, .int .i64 0]⟩),
  (42, ⟨.func, 1, 8, .nilFunc⟩),
  (43, ⟨.func, 1, 8, .nilFunc⟩),
  (44, ⟨.func, 1, 8, .nilFunc⟩),
  (45, ⟨.func, 1, 8, .nilFunc⟩),
  (46, ⟨.func, 1, 8, .nilFunc⟩),
  (47, ⟨.int .u64, 1, 8, .int .u64 0⟩),
  (48, ⟨.struct [(47, 0, 1), (47, 1, 1)], 2, 16, .agg #[.int .u64 0, .int .u64 0]⟩),
  (49, ⟨.struct [(47, 0, 1), (47, 1, 1)], 2, 16, .agg #[.int .u64 0, .int .u64 0]⟩),
  (50, ⟨.struct [(3, 0, 1), (28, 1, 1), (49, 2, 2)], 4, 48, .agg #[.int .i64 0, .slice none 0 0, .int .u64 0, .int .u64 0]⟩),
  (51, ⟨.struct [(3, 0, 1), (28, 1, 1), (49, 2, 2)], 4, 48, .agg #[.int .i64 0, .slice none 0 0, .int .u64 0, .int .u64 0]⟩),
  (52, ⟨.slice 24, 1, 24, .slice none 0 0⟩),
  (53, ⟨.func, 1, 8, .nilFunc⟩),
  (54, ⟨.func, 1, 8, .nilFunc⟩),
  (55, ⟨.func, 1, 8, .nilFunc⟩),
  (57, ⟨.func, 1, 8, .nilFunc⟩),
  (58, ⟨.func, 1, 8, .nilFunc⟩),
  (59, ⟨.func, 1, 8, .nilFunc⟩),
  (60, ⟨.struct [(3, 0, 1), (3, 1, 1), (3, 2, 1), (3, 3, 1), (3, 4, 1), (3, 5, 1), (3, 6, 1), (3, 7, 1)], 8, 64, .agg #[.int .i64 0, .int .i64 0, .int .i64 0, .int .i64 0, .int .i64 0, .int .i64 0, .int .i64 0, .int .i64 0]⟩),
  (61, ⟨.struct [(3, 0, 1), (3, 1, 1), (3, 2, 1), (3, 3, 1), (3, 4, 1), (3, 5, 1), (3, 6, 1), (3, 7, 1)], 8, 64, .agg #[.int .i64 0, .int .i64 0, .int .i64 0, .int .i64 0, .int .i64 0, .int .i64 0, .int .i64 0, .int .i64 0]⟩),
  (62, ⟨.slice 64, 1, 24, .slice none 0 0⟩),
  (63, ⟨.struct [(3, 0, 1), (9, 1, 1), (9, 2, 1), (3, 3, 1)], 4, 48, .agg #[.int .i64 0, .string ⟨⟨[]⟩⟩, .string ⟨⟨[]⟩⟩, .int .i64 0]⟩),
  (64, ⟨.struct [(3, 0, 1), (9, 1, 1), (9, 2, 1), (3, 3, 1)], 4, 48, .agg #[.int .i64 0, .string ⟨⟨[]⟩⟩, .string ⟨⟨[]⟩⟩, .int .i64 0]⟩),
  (65, ⟨.ptr 132, 1, 8, .pointer none⟩),
  (66, ⟨.func, 1, 8, .nilFunc⟩),
  (67, ⟨.func, 1, 8, .nilFunc⟩),
  (68, ⟨.slice 75, 1, 24, .slice none 0 0⟩),
  (69, ⟨.struct [(25, 0, 1), (9, 1, 1), (68, 2, 1)], 3, 48, .agg #[.int .i64 0, .string ⟨⟨[]⟩⟩, .slice none 0 0]⟩),
  (70, ⟨.struct [(25, 0, 1), (9, 1, 1), (68, 2, 1)], 3, 48, .agg #[.int .i64 0, .string ⟨⟨[]⟩⟩, .slice none 0 0]⟩),
  (71, ⟨.func, 1, 8, .nilFunc⟩),
  (72, ⟨.func, 1, 8, .nilFunc⟩),
  (73, ⟨.func, 1, 8, .nilFunc⟩),
  (74, ⟨.struct [(9, 0, 1), (9, 1, 1)], 2, 32, .agg #[.string ⟨⟨[]⟩⟩, .string ⟨⟨[]⟩⟩]⟩),
  (75, ⟨.struct [(9, 0, 1), (9, 1, 1)], 2, 32, .agg #[.string ⟨⟨[]⟩⟩, .string ⟨⟨[]⟩⟩]⟩),
  (76, ⟨.func, 1, 8, .nilFunc⟩),
  (77, ⟨.func, 1, 8, .nilFunc⟩),
  (78, ⟨.func, 1, 8, .nilFunc⟩),
  (79, ⟨.struct [(3, 0, 1), (9, 1, 1), (68, 2, 1)], 3, 48, .agg #[.int .i64 0, .string ⟨⟨[]⟩⟩, .slice none 0 0]⟩),
  (80, ⟨.struct [(3, 0, 1), (9, 1, 1), (68, 2, 1)], 3, 48, .agg #[.int .i64 0, .string ⟨⟨[]⟩⟩, .slice none 0 0]⟩),
  (81, ⟨.func, 1, 8, .nilFunc⟩),
  (82, ⟨.func, 1, 8, .nilFunc⟩),
  (83, ⟨.slice 23, 1, 24, .slice none 0 0⟩),
  (84, ⟨.slice 135, 1, 24, .slice none 0 0⟩),
  (85, ⟨.struct [(3, 0, 1), (83, 1, 1), (38, 2, 1), (84, 3, 1), (68, 4, 1)], 5, 104, .agg #[.int .i64 0, .slice none 0 0, .slice none 0 0, .slice none 0 0, .slice none 0 0]⟩),
  (86, ⟨.struct [(3, 0, 1), (83, 1, 1), (38, 2, 1), (84, 3, 1), (68, 4, 1)], 5, 104, .agg #[.int .i64 0, .slice none 0 0, .slice none 0 0, .slice none 0 0, .slice none 0 0]⟩),
  (87, ⟨.func, 1, 8, .nilFunc⟩),
  (89, ⟨.func, 1, 8, .nilFunc⟩),
  (90, ⟨.func, 1, 8, .nilFunc⟩),
  (91, ⟨.func, 1, 8, .nilFunc⟩),
  (92, ⟨.struct [(9, 0, 1), (9, 1, 1), (4, 2, 1)], 3, 40, .agg #[.string ⟨⟨[]⟩⟩, .string ⟨⟨[]⟩⟩, .bool false]⟩),
  (93, ⟨.struct [(9, 0, 1), (9, 1, 1), (4, 2, 1)], 3, 40, .agg #[.string ⟨⟨[]⟩⟩, .string ⟨⟨[]⟩⟩, .bool false]⟩),
  (95, ⟨.func, 1, 8, .nilFunc⟩),
  (96, ⟨.func, 1, 8, .nilFunc⟩),
  (97, ⟨.slice 102, 1, 24, .slice none 0 0⟩),
  (98, ⟨.ptr 113, 1, 8, .pointer none⟩),
  (100, ⟨.func, 1, 8, .nilFunc⟩),
  (101, ⟨.func, 1, 8, .nilFunc⟩),
  (102, ⟨.struct [(3, 0, 1), (23, 1, 1), (28, 2, 1)], 3, 40, .agg #[.int .i64 0, .int .u32 0, .slice none 0 0]⟩),
  (103, ⟨.func, 1, 8, .nilFunc⟩),
  (105, ⟨.func, 1, 8, .nilFunc⟩),
  (106, ⟨.func, 1, 8, .nilFunc⟩),
  (107, ⟨.func, 1, 8, .nilFunc⟩),
  (108, ⟨.slice 162, 1, 24, .slice none 0 0⟩),
  (109, ⟨.map 23 3, 1, 8, .map none⟩),
  (110, ⟨.slice 3, 1, 24, .slice none 0 0⟩),
  (111, ⟨.ptr 203, 1, 8, .pointer none⟩),
  (112, ⟨.struct [(24, 0, 1), (108, 1, 1), (109, 2, 1), (110, 3, 1), (111, 4, 1)], 5, 72, .agg #[.pointer none, .slice none 0 0, .map none, .slice none 0 0, .pointer none]⟩),
  (113, ⟨.struct [(24, 0, 1), (108, 1, 1), (109, 2, 1), (110, 3, 1), (111, 4, 1)], 5, 72, .agg #[.pointer none, .slice none 0 0, .map none, .slice none 0 0, .pointer none]⟩),
  (114, ⟨.slice 98, 1, 24, .slice none 0 0⟩),
  (115, ⟨.func, 1, 8, .nilFunc⟩),
  (116, ⟨.func, 1, 8, .nilFunc⟩),
  (117, ⟨.func, 1, 8, .nilFunc⟩),
  (118, ⟨.slice 178, 1, 24, .slice none 0 0⟩),
  (119, ⟨.struct [(40, 0, 4), (118, 4, 1), (3, 5, 1), (83, 6, 1)], 7, 104, .agg #[.int .i64 0, .slice none 0 0, .int .i64 0, .int .i64 0, .slice none 0 0, .int .i64 0, .slice none 0 0]⟩),
  (120, ⟨.struct [(40, 0, 4), (118, 4, 1), (3, 5, 1), (83, 6, 1)], 7, 104, .agg #[.int .i64 0, .slice none 0 0, .int .i64 0, .int .i64 0, .slice none 0 0, .int .i64 0, .slice none 0 0]⟩),
  (122, ⟨.func, 1, 8, .nilFunc⟩),
  (124, ⟨.func, 1, 8, .nilFunc⟩),
  (125, ⟨.func, 1, 8, .nilFunc⟩),
  (126, ⟨.func, 1, 8, .nilFunc⟩),
  (127, ⟨.func, 1, 8, .nilFunc⟩),
  (128, ⟨.func, 1, 8, .nilFunc⟩),
  (129, ⟨.func, 1, 8, .nilFunc⟩),
  (130, ⟨.func, 1, 8, .nilFunc⟩),
  (131, ⟨.struct [(61, 0, 8), (68, 8, 1)], 9, 88, .agg #[.int .i64 0, .int .i64 0, .int .i64 0, .int .i64 0, .int .i64 0, .int .i64 0, .int .i64 0, .int .i64 0, .slice none 0 0]⟩),
  (132, ⟨.struct [(61, 0, 8), (68, 8, 1)], 9, 88, .agg #[.int .i64 0, .int .i64 0, .int .i64 0, .int .i64 0, .int .i64 0, .int .i64 0, .int .i64 0, .int .i64 0, .slice none 0 0]⟩),
  (133, ⟨.func, 1, 8, .nilFunc⟩),
  (134, ⟨.struct [(9, 0, 1), (4, 1, 1), (9, 2, 1)], 3, 40, .agg #[.string ⟨⟨[]⟩⟩, .bool false, .string ⟨⟨[]⟩⟩]⟩),
  (135, ⟨.struct [(9, 0, 1), (4, 1, 1), (9, 2, 1)], 3, 40, .agg #[.string ⟨⟨[]⟩⟩, .bool false, .string ⟨⟨[]⟩⟩]⟩),
  (136, ⟨.func, 1, 8, .nilFunc⟩),
  (137, ⟨.func, 1, 8, .nilFunc⟩),
  (138, ⟨.func, 1, 8, .nilFunc⟩),
  (140, ⟨.func, 1, 8, .nilFunc⟩),
  (141, ⟨.func, 1, 8, .nilFunc⟩),
  (142, ⟨.func, 1, 8, .nilFunc⟩),
  (143, ⟨.func, 1, 8, .nilFunc⟩),
  (144, ⟨.slice 86, 1, 24, .slice none 0 0⟩),
  (145, ⟨.func, 1, 8, .nilFunc⟩),
  (146, ⟨.func, 1, 8, .nilFunc⟩),
  (148, ⟨.func, 1, 8, .nilFunc⟩),
  (149, ⟨.func, 1, 8, .nilFunc⟩),
  (150, ⟨.func, 1, 8, .nilFunc⟩),
  (151, ⟨.func, 1, 8, .nilFunc⟩),
  (152, ⟨.func, 1, 8, .nilFunc⟩),
  (153, ⟨.func, 1, 8, .nilFunc⟩),
  (154, ⟨.func, 1, 8, .nilFunc⟩),
  (155, ⟨.func, 1, 8, .nilFunc⟩),
  (157, ⟨.func, 1, 8, .nilFunc⟩),
  (158, ⟨.ptr 162, 1, 8, .pointer none⟩),
  (160, ⟨.func, 1, 8, .nilFunc⟩),
  (161, ⟨.struct [(23, 0, 1), (28, 1, 1), (4, 2, 1), (3, 3, 1)], 4, 48, .agg #[.int .u32 0, .slice none 0 0, .bool false, .int .i64 0]⟩),
  (162, ⟨.struct [(23, 0, 1), (28, 1, 1), (4, 2, 1), (3, 3, 1)], 4, 48, .agg #[.int .u32 0, .slice none 0 0, .bool false, .int .i64 0]⟩),
  (163, ⟨.func, 1, 8, .nilFunc⟩),
  (164, ⟨.func, 1, 8, .nilFunc⟩),
  (165, ⟨.func, 1, 8, .nilFunc⟩),
  (166, ⟨.func, 1, 8, .nilFunc⟩),
  (167, ⟨.func, 1, 8, .nilFunc⟩),
  (169, ⟨.func, 1, 8, .nilFunc⟩),
  (170, ⟨.func, 1, 8, .nilFunc⟩),
  (171, ⟨.func, 1, 8, .nilFunc⟩),
  (172, ⟨.func, 1, 8, .nilFunc⟩),
  (173, ⟨.func, 1, 8, .nilFunc⟩),
  (174, ⟨.func, 1, 8, .nilFunc⟩),
  (175, ⟨.func, 1, 8, .nilFunc⟩),
  (176, ⟨.func, 1, 8, .nilFunc⟩),
  (177, ⟨.struct [(23, 0, 1), (9, 1, 1), (4, 2, 1), (3, 3, 1)], 4, 40, .agg #[.int .u32 0, .string ⟨⟨[]⟩⟩, .bool false, .int .i64 0]⟩),
  (178, ⟨.struct [(23, 0, 1), (9, 1, 1), (4, 2, 1), (3, 3, 1)], 4, 40, .agg #[.int .u32 0, .string ⟨⟨[]⟩⟩, .bool false, .int .i64 0]⟩),
  (179, ⟨.func, 1, 8, .nilFunc⟩),
  (180, ⟨.func, 1, 8, .nilFunc⟩),
  (181, ⟨.func, 1, 8, .nilFunc⟩),
  (182, ⟨.func, 1, 8, .nilFunc⟩),
  (183, ⟨.func, 1, 8, .nilFunc⟩),
  (184, ⟨.func, 1, 8, .nilFunc⟩),
  (185, ⟨.func, 1, 8, .nilFunc⟩),
  (187, ⟨.func, 1, 8, .nilFunc⟩),
  (188, ⟨.func, 1, 8, .nilFunc⟩),
  (189, ⟨.func, 1, 8, .nilFunc⟩),
  (190, ⟨.func, 1, 8, .nilFunc⟩),
  (191, ⟨.func, 1, 8, .nilFunc⟩),
  (193, ⟨.func, 1, 8, .nilFunc⟩),
  (194, ⟨.func, 1, 8, .nilFunc⟩),
  (195, ⟨.func, 1, 8, .nilFunc⟩),
  (196, ⟨.func, 1, 8, .nilFunc⟩),
  (197, ⟨.func, 1, 8, .nilFunc⟩),
  (198, ⟨.func, 1, 8, .nilFunc⟩),
  (199, ⟨.func, 1, 8, .nilFunc⟩),
  (200, ⟨.func, 1, 8, .nilFunc⟩),
  (201, ⟨.slice 205, 1, 24, .slice none 0 0⟩),
  (202, ⟨.struct [(201, 0, 1), (3, 1, 1)], 2, 32, .agg #[.slice none 0 0, .int .i64 0]⟩),
  (203, ⟨.struct [(201, 0, 1), (3, 1, 1)], 2, 32, .agg #[.slice none 0 0, .int .i64 0]⟩),
  (204, ⟨.struct [(3, 0, 1), (3, 1, 1), (4, 2, 1)], 3, 24, .agg #[.int .i64 0, .int .i64 0, .bool false]⟩),
  (205, ⟨.struct [(3, 0, 1), (3, 1, 1), (4, 2, 1)], 3, 24, .agg #[.int .i64 0, .int .i64 0, .bool false]⟩),
  (206, ⟨.func, 1, 8, .nilFunc⟩),
  (207, ⟨.func, 1, 8, .nilFunc⟩),
  (208, ⟨.func, 1, 8, .nilFunc⟩),
  (209, ⟨.func, 1, 8, .nilFunc⟩),
  (210, ⟨.func, 1, 8, .nilFunc⟩),
  (212, ⟨.func, 1, 8, .nilFunc⟩),
  (213, ⟨.func, 1, 8, .nilFunc⟩),
  (214, ⟨.int .u64, 1, 8, .int .u64 0⟩),
  (215, ⟨.func, 1, 8, .nilFunc⟩),
  (216, ⟨.func, 1, 8, .nilFunc⟩),
  (217, ⟨.func, 1, 8, .nilFunc⟩),
  (218, ⟨.slice 84, 1, 24, .slice none 0 0⟩),
  (219, ⟨.func, 1, 8, .nilFunc⟩),
  (220, ⟨.func, 1, 8, .nilFunc⟩),
  (221, ⟨.func, 1, 8, .nilFunc⟩),
  (222, ⟨.func, 1, 8, .nilFunc⟩),
  (223, ⟨.func, 1, 8, .nilFunc⟩),
  (224, ⟨.func, 1, 8, .nilFunc⟩),
  (225, ⟨.int .i64, 1, 8, .int .i64 0⟩),
  (227, ⟨.func, 1, 8, .nilFunc⟩),
  (228, ⟨.func, 1, 8, .nilFunc⟩),
  (229, ⟨.func, 1, 8, .nilFunc⟩),
  (230, ⟨.func, 1, 8, .nilFunc⟩),
  (231, ⟨.func, 1, 8, .nilFunc⟩),
  (232, ⟨.func, 1, 8, .nilFunc⟩),
  (233, ⟨.func, 1, 8, .nilFunc⟩),
  (234, ⟨.int .u64, 1, 8, .int .u64 0⟩),
  (235, ⟨.func, 1, 8, .nilFunc⟩),
  (236, ⟨.func, 1, 8, .nilFunc⟩),
  (237, ⟨.func, 1, 8, .nilFunc⟩),
  (238, ⟨.ptr 3, 1, 8, .pointer none⟩),
  (239, ⟨.func, 1, 8, .nilFunc⟩),
  (240, ⟨.ptr 234, 1, 8, .pointer none⟩),
  (241, ⟨.func, 1, 8, .nilFunc⟩),
  (242, ⟨.func, 1, 8, .nilFunc⟩),
  (248, ⟨.int .u8, 1, 1, .int .u8 0⟩),
  (249, ⟨.int .u8, 1, 1, .int .u8 0⟩),
  (250, ⟨.func, 1, 8, .nilFunc⟩),
  (251, ⟨.ptr 5, 1, 8, .pointer none⟩),
  (252, ⟨.int .i32, 1, 4, .int .i32 0⟩),
  (253, ⟨.int .i32, 1, 4, .int .i32 0⟩)]
theorem ttok : TTok Try.prog tt := by
  refine ttok_cons ⟨by kernel_rfl, ⟨_, _, _, Try.underlying1⟩⟩ ?_
  refine ttok_cons ⟨by kernel_rfl, Try.underlying2⟩ ?_
  refine ttok_cons ⟨by kernel_rfl, Try.underlying3⟩ ?_
  refine ttok_cons ⟨by kernel_rfl, Try.underlying4⟩ ?_
  refine ttok_cons ⟨by kernel_rfl, Try.underlying5⟩ ?_
  refine ttok_cons ⟨by kernel_rfl, Try.underlying6⟩ ?_
  refine ttok_cons ⟨by kernel_rfl, Try.underlying9⟩ ?_
  refine ttok_cons ⟨by kernel_rfl, Try.underlying10⟩ ?_
  refine ttok_cons ⟨by kernel_rfl, Try.underlying11⟩ ?_
  refine ttok_cons ⟨by kernel_rfl, Try.underlying12⟩ ?_
  refine ttok_cons ⟨by kernel_rfl, Try.underlying15⟩ ?_
  refine ttok_cons ⟨by kernel_rfl, Try.underlying16⟩ ?_
  refine ttok_cons ⟨by kernel_rfl, Try.underlying17⟩ ?_
  refine ttok_cons ⟨by kernel_rfl, ⟨_, Try.underlying20⟩⟩ ?_
  refine ttok_cons ⟨by kernel_rfl, Try.underlying21⟩ ?_
  refine ttok_cons ⟨by kernel_rfl, Try.underlying22⟩ ?_
  refine ttok_cons ⟨by kernel_rfl, Try.underlying23⟩ ?_
  refine ttok_cons ⟨by kernel_rfl, Try.underlying24⟩ ?_
  refine ttok_cons ⟨by kernel_rfl, Try.underlying25⟩ ?_
  refine ttok_cons ⟨by kernel_rfl, ⟨_, _, _, Try.underlying27⟩⟩ ?_
  refine ttok_cons ⟨by kernel_rfl, Try.underlying28⟩ ?_
  refine ttok_cons ⟨by kernel_rfl, ⟨_, Try.underlying29, by kernel_rfl, by kernel_rfl, by kernel_rfl, by kernel_rfl, by kernel_rfl, by kernel_rfl⟩⟩ ?_
  refine ttok_cons ⟨by kernel_rfl, ⟨_, Try.underlying30, by kernel_rfl, by kernel_rfl, by kernel_rfl, by kernel_rfl, by kernel_rfl, by kernel_rfl⟩⟩ ?_
  refine ttok_cons ⟨by kernel_rfl, ⟨_, _, _, Try.underlying31⟩⟩ ?_
  refine ttok_cons ⟨by kernel_rfl, ⟨_, _, _, Try.underlying33⟩⟩ ?_
  refine ttok_cons ⟨by kernel_rfl, ⟨_, _, _, Try.underlying34⟩⟩ ?_
  refine ttok_cons ⟨by kernel_rfl, ⟨_, _, _, Try.underlying35⟩⟩ ?_
  refine ttok_cons ⟨by kernel_rfl, ⟨_, _, _, Try.underlying36⟩⟩ ?_
  refine ttok_cons ⟨by kernel_rfl, ⟨_, _, _, Try.underlying37⟩⟩ ?_
  refine ttok_cons ⟨by kernel_rfl, Try.underlying38⟩ ?_
  refine ttok_cons ⟨by kernel_rfl, ⟨_, Try.underlying39, by kernel_rfl, by kernel_rfl, by kernel_rfl, by kernel_rfl, by kernel_rfl, by kernel_rfl⟩⟩ ?_
  refine ttok_cons ⟨by kernel_rfl, ⟨_, Try.underlying40, by kernel_rfl, by kernel_rfl, by kernel_rfl, by kernel_rfl, by kernel_rfl, by kernel_rfl⟩⟩ ?_
  refine ttok_cons ⟨by kernel_rfl, ⟨_, _, _, Try.underlying42⟩⟩ ?_
  refine ttok_cons ⟨by kernel_rfl, ⟨_, _, _, Try.underlying43⟩⟩ ?_
  refine ttok_cons ⟨by kernel_rfl, ⟨_, _, _, Try.underlying44⟩⟩ ?_
  refine ttok_cons ⟨by kernel_rfl, ⟨_, _, _, Try.underlying45⟩⟩ ?_
  refine ttok_cons ⟨by kernel_rfl, ⟨_, _, _, Try.underlying46⟩⟩ ?_
  refine ttok_cons ⟨by kernel_rfl, Try.underlying47⟩ ?_
  refine ttok_cons ⟨by kernel_rfl, ⟨_, Try.underlying48, by kernel_rfl, by kernel_rfl, by kernel_rfl, by kernel_rfl, by kernel_rfl, by kernel_rfl⟩⟩ ?_
  refine ttok_cons ⟨by kernel_rfl, ⟨_, Try.underlying49, by kernel_rfl, by kernel_rfl, by kernel_rfl, by kernel_rfl, by kernel_rfl, by kernel_rfl⟩⟩ ?_
  refine ttok_cons ⟨by kernel_rfl, ⟨_, Try.underlying50, by kernel_rfl, by kernel_rfl, by kernel_rfl, by kernel_rfl, by kernel_rfl, by kernel_rfl⟩⟩ ?_
  refine ttok_cons ⟨by kernel_rfl, ⟨_, Try.underlying51, by kernel_rfl, by kernel_rfl, by kernel_rfl, by kernel_rfl, by kernel_rfl, by kernel_rfl⟩⟩ ?_
  refine ttok_cons ⟨by kernel_rfl, Try.underlying52⟩ ?_
  refine ttok_cons ⟨by kernel_rfl, ⟨_, _, _, Try.underlying53⟩⟩ ?_
  refine ttok_cons ⟨by kernel_rfl, ⟨_, _, _, Try.underlying54⟩⟩ ?_
  refine ttok_cons ⟨by kernel_rfl, ⟨_, _, _, Try.underlying55⟩⟩ ?_
  refine ttok_cons ⟨by kernel_rfl, ⟨_, _, _, Try.underlying57⟩⟩ ?_
  refine ttok_cons ⟨by kernel_rfl, ⟨_, _, _, Try.underlying58⟩⟩ ?_
  refine ttok_cons ⟨by kernel_rfl, ⟨_, _, _, Try.underlying59⟩⟩ ?_
  refine ttok_cons ⟨by kernel_rfl, ⟨_, Try.underlying60, by kernel_rfl, by kernel_rfl, by kernel_rfl, by kernel_rfl, by kernel_rfl, by kernel_rfl⟩⟩ ?_
  refine ttok_cons ⟨by kernel_rfl, ⟨_, Try.underlying61, by kernel_rfl, by kernel_rfl, by kernel_rfl, by kernel_rfl, by kernel_rfl, by kernel_rfl⟩⟩ ?_
  refine ttok_cons ⟨by kernel_rfl, Try.underlying62⟩ ?_
  refine ttok_cons ⟨by kernel_rfl, ⟨_, Try.underlying63, by kernel_rfl, by kernel_rfl, by kernel_rfl, by kernel_rfl, by kernel_rfl, by kernel_rfl⟩⟩ ?_
  refine ttok_cons ⟨by kernel_rfl, ⟨_, Try.underlying64, by kernel_rfl, by kernel_rfl, by kernel_rfl, by kernel_rfl, by kernel_rfl, by kernel_rfl⟩⟩ ?_
  refine ttok_cons ⟨by kernel_rfl, Try.underlying65⟩ ?_
  refine ttok_cons ⟨by kernel_rfl, ⟨_, _, _, Try.underlying66⟩⟩ ?_
  refine ttok_cons ⟨by kernel_rfl, ⟨_, _, _, Try.underlying67⟩⟩ ?_
  refine ttok_cons ⟨by kernel_rfl, Try.underlying68⟩ ?_
  refine ttok_cons ⟨by kernel_rfl, ⟨_, Try.underlying69, by kernel_rfl, by kernel_rfl, by kernel_rfl, by kernel_rfl, by kernel_rfl, by kernel_rfl⟩⟩ ?_
  refine ttok_cons ⟨by kernel_rfl, ⟨_, Try.underlying70, by kernel_rfl, by kernel_rfl, by kernel_rfl, by kernel_rfl, by kernel_rfl, by kernel_rfl⟩⟩ ?_
  refine ttok_cons ⟨by kernel_rfl, ⟨_, _, _, Try.underlying71⟩⟩ ?_
  refine ttok_cons ⟨by kernel_rfl, ⟨_, _, _, Try.underlying72⟩⟩ ?_
  refine ttok_cons ⟨by kernel_rfl, ⟨_, _, _, Try.underlying73⟩⟩ ?_
  refine ttok_cons ⟨by kernel_rfl, ⟨_, Try.underlying74, by kernel_rfl, by kernel_rfl, by kernel_rfl, by kernel_rfl, by kernel_rfl, by kernel_rfl⟩⟩ ?_
  refine ttok_cons ⟨by kernel_rfl, ⟨_, Try.underlying75, by kernel_rfl, by kernel_rfl, by kernel_rfl, by kernel_rfl, by kernel_rfl, by kernel_rfl⟩⟩ ?_
  refine ttok_cons ⟨by kernel_rfl, ⟨_, _, _, Try.underlying76⟩⟩ ?_
  refine ttok_cons ⟨by kernel_rfl, ⟨_, _, _, Try.underlying77⟩⟩ ?_
  refine ttok_cons ⟨by kernel_rfl, ⟨_, _, _, Try.underlying78⟩⟩ ?_
  refine ttok_cons ⟨by kernel_rfl, ⟨_, Try.underlying79, by kernel_rfl, by kernel_rfl, by kernel_rfl, by kernel_rfl, by kernel_rfl, by kernel_rfl⟩⟩ ?_
  refine ttok_cons ⟨by kernel_rfl, ⟨_, Try.underlying80, by kernel_rfl, by kernel_rfl, by kernel_rfl, by kernel_rfl, by kernel_rfl, by kernel_rfl⟩⟩ ?_
  refine ttok_cons ⟨by kernel_rfl, ⟨_, _, _, Try.underlying81⟩⟩ ?_
  refine ttok_cons ⟨by kernel_rfl, ⟨_, _, _, Try.underlying82⟩⟩ ?_
  refine ttok_cons ⟨by kernel_rfl, Try.underlying83⟩ ?_
  refine ttok_cons ⟨by kernel_rfl, Try.underlying84⟩ ?_
  refine ttok_cons ⟨by kernel_rfl, ⟨_, Try.underlying85, by kernel_rfl, by kernel_rfl, by kernel_rfl, by kernel_rfl, by kernel_rfl, by kernel_rfl⟩⟩ ?_
  refine ttok_cons ⟨by kernel_rfl, ⟨_, Try.underlying86, by kernel_rfl, by kernel_rfl, by kernel_rfl, by kernel_rfl, by kernel_rfl, by kernel_rfl⟩⟩ ?_
  refine ttok_cons ⟨by kernel_rfl, ⟨_, _, _, Try.underlying87⟩⟩ ?_
  refine ttok_cons ⟨by kernel_rfl, ⟨_, _, _, Try.underlying89⟩⟩ ?_
  refine ttok_cons ⟨by kernel_rfl, ⟨_, _, _, Try.underlying90⟩⟩ ?_
  refine ttok_cons ⟨by kernel_rfl, ⟨_, _, _, Try.underlying91⟩⟩ ?_
  refine ttok_cons ⟨by kernel_rfl, ⟨_, Try.underlying92, by kernel_rfl, by kernel_rfl, by kernel_rfl, by kernel_rfl, by kernel_rfl, by kernel_rfl⟩⟩ ?_
  refine ttok_cons ⟨by kernel_rfl, ⟨_, Try.underlying93, by kernel_rfl, by kernel_rfl, by kernel_rfl, by kernel_rfl, by kernel_rfl, by kernel_rfl⟩⟩ ?_
  refine ttok_cons ⟨by kernel_rfl, ⟨_, _, _, Try.underlying95⟩⟩ ?_
  refine ttok_cons ⟨by kernel_rfl, ⟨_, _, _, Try.underlying96⟩⟩ ?_
  refine ttok_cons ⟨by kernel_rfl, Try.underlying97⟩ ?_
  refine ttok_cons ⟨by kernel_rfl, Try.underlying98⟩ ?_
  refine ttok_cons ⟨by kernel_rfl, ⟨_, _, _, Try.underlying100⟩⟩ ?_
  refine ttok_cons ⟨by kernel_rfl, ⟨_, _, _, Try.underlying101⟩⟩ ?_
  refine ttok_cons ⟨by kernel_rfl, ⟨_, Try.underlying102, by kernel_rfl, by kernel_rfl, by kernel_rfl, by kernel_rfl, by kernel_rfl, by kernel_rfl⟩⟩ ?_
  refine ttok_cons ⟨by kernel_rfl, ⟨_, _, _, Try.underlying103⟩⟩ ?_
  refine ttok_cons ⟨by kernel_rfl, ⟨_, _, _, Try.underlying105⟩⟩ ?_
  refine ttok_cons ⟨by kernel_rfl, ⟨_, _, _, Try.underlying106⟩⟩ ?_
  refine ttok_cons ⟨by kernel_rfl, ⟨_, _, _, Try.underlying107⟩⟩ ?_
  refine ttok_cons ⟨by kernel_rfl, Try.underlying108⟩ ?_
  refine ttok_cons ⟨by kernel_rfl, Try.underlying109⟩ ?_
  refine ttok_cons ⟨by kernel_rfl, Try.underlying110⟩ ?_
  refine ttok_cons ⟨by kernel_rfl, Try.underlying111⟩ ?_
  refine ttok_cons ⟨by kernel_rfl, ⟨_, Try.underlying112, by kernel_rfl, by kernel_rfl, by kernel_rfl, by kernel_rfl, by kernel_rfl, by kernel_rfl⟩⟩ ?_
  refine ttok_cons ⟨by kernel_rfl, ⟨_, Try.underlying113, by kernel_rfl, by kernel_rfl, by kernel_rfl, by kernel_rfl, by kernel_rfl, by kernel_rfl⟩⟩ ?_
  refine ttok_cons ⟨by kernel_rfl, Try.underlying114⟩ ?_
  refine ttok_cons ⟨by kernel_rfl, ⟨_, _, _, Try.underlying115⟩⟩ ?_
  refine ttok_cons ⟨by kernel_rfl, ⟨_, _, _, Try.underlying116⟩⟩ ?_
  refine ttok_cons ⟨by kernel_rfl, ⟨_, _, _, Try.underlying117⟩⟩ ?_
  refine ttok_cons ⟨by kernel_rfl, Try.underlying118⟩ ?_
  refine ttok_cons ⟨by kernel_rfl, ⟨_, Try.underlying119, by kernel_rfl, by kernel_rfl, by kernel_rfl, by kernel_rfl, by kernel_rfl, by kernel_rfl⟩⟩ ?_
  refine ttok_cons ⟨by kernel_rfl, ⟨_, Try.underlying120, by kernel_rfl, by kernel_rfl, by kernel_rfl, by kernel_rfl, by kernel_rfl, by kernel_rfl⟩⟩ ?_
  refine ttok_cons ⟨by kernel_rfl, ⟨_, _, _, Try.underlying122⟩⟩ ?_
  refine ttok_cons ⟨by kernel_rfl, ⟨_, _, _, Try.underlying124⟩⟩ ?_
  refine ttok_cons ⟨by kernel_rfl, ⟨_, _, _, Try.underlying125⟩⟩ ?_
  refine ttok_cons ⟨by kernel_rfl, ⟨_, _, _, Try.underlying126⟩⟩ ?_
  refine ttok_cons ⟨by kernel_rfl, ⟨_, _, _, Try.underlying127⟩⟩ ?_
  refine ttok_cons ⟨by kernel_rfl, ⟨_, _, _, Try.underlying128⟩⟩ ?_
  refine ttok_cons ⟨by kernel_rfl, ⟨_, _, _, Try.underlying129⟩⟩ ?_
  refine ttok_cons ⟨by kernel_rfl, ⟨_, _, _, Try.underlying130⟩⟩ ?_
  refine ttok_cons ⟨by kernel_rfl, ⟨_, Try.underlying131, by kernel_rfl, by kernel_rfl, by kernel_rfl, by kernel_rfl, by kernel_rfl, by kernel_rfl⟩⟩ ?_
  refine ttok_cons ⟨by kernel_rfl, ⟨_, Try.underlying132, by kernel_rfl, by kernel_rfl, by kernel_rfl, by kernel_rfl, by kernel_rfl, by kernel_rfl⟩⟩ ?_
  refine ttok_cons ⟨by kernel_rfl, ⟨_, _, _, Try.underlying133⟩⟩ ?_
  refine ttok_cons ⟨by kernel_rfl, ⟨_, Try.underlying134, by kernel_rfl, by kernel_rfl, by kernel_rfl, by kernel_rfl, by kernel_rfl, by kernel_rfl⟩⟩ ?_
  refine ttok_cons ⟨by kernel_rfl, ⟨_, Try.underlying135, by kernel_rfl, by kernel_rfl, by kernel_rfl, by kernel_rfl, by kernel_rfl, by kernel_rfl⟩⟩ ?_
  refine ttok_cons ⟨by kernel_rfl, ⟨_, _, _, Try.underlying136⟩⟩ ?_
  refine ttok_cons ⟨by kernel_rfl, ⟨_, _, _, Try.underlying137⟩⟩ ?_
  refine ttok_cons ⟨by kernel_rfl, ⟨_, _, _, Try.underlying138⟩⟩ ?_
  refine ttok_cons ⟨by kernel_rfl, ⟨_, _, _, Try.underlying140⟩⟩ ?_
  refine ttok_cons ⟨by kernel_rfl, ⟨_, _, _, Try.underlying141⟩⟩ ?_
  refine ttok_cons ⟨by kernel_rfl, ⟨_, _, _, Try.underlying142⟩⟩ ?_
  refine ttok_cons ⟨by kernel_rfl, ⟨_, _, _, Try.underlying143⟩⟩ ?_
  refine ttok_cons ⟨by kernel_rfl, Try.underlying144⟩ ?_
  refine ttok_cons ⟨by kernel_rfl, ⟨_, _, _, Try.underlying145⟩⟩ ?_
  refine ttok_cons ⟨by kernel_rfl, ⟨_, _, _, Try.underlying146⟩⟩ ?_
  refine ttok_cons ⟨by kernel_rfl, ⟨_, _, _, Try.underlying148⟩⟩ ?_
  refine ttok_cons ⟨by kernel_rfl, ⟨_, _, _, Try.underlying149⟩⟩ ?_
  refine ttok_cons ⟨by kernel_rfl, ⟨_, _, _, Try.underlying150⟩⟩ ?_
  refine ttok_cons ⟨by kernel_rfl, ⟨_, _, _, Try.underlying151⟩⟩ ?_
  refine ttok_cons ⟨by kernel_rfl, ⟨_, _, _, Try.underlying152⟩⟩ ?_
  refine ttok_cons ⟨by kernel_rfl, ⟨_, _, _, Try.underlying153⟩⟩ ?_
  refine ttok_cons ⟨by kernel_rfl, ⟨_, _, _, Try.underlying154⟩⟩ ?_
  refine ttok_cons ⟨by kernel_rfl, ⟨_, _, _, Try.underlying155⟩⟩ ?_
  refine ttok_cons ⟨by kernel_rfl, ⟨_, _, _, Try.underlying157⟩⟩ ?_
  refine ttok_cons ⟨by kernel_rfl, Try.underlying158⟩ ?_
  refine ttok_cons ⟨by kernel_rfl, ⟨_, _, _, Try.underlying160⟩⟩ ?_
  refine ttok_cons ⟨by kernel_rfl, ⟨_, Try.underlying161, by kernel_rfl, by kernel_rfl, by kernel_rfl, by kernel_rfl, by kernel_rfl, by kernel_rfl⟩⟩ ?_
  refine ttok_cons ⟨by kernel_rfl, ⟨_, Try.underlying162, by kernel_rfl, by kernel_rfl, by kernel_rfl, by kernel_rfl, by kernel_rfl, by kernel_rfl⟩⟩ ?_
  refine ttok_cons ⟨by kernel_rfl, ⟨_, _, _, Try.underlying163⟩⟩ ?_
  refine ttok_cons ⟨by kernel_rfl, ⟨_, _, _, Try.underlying164⟩⟩ ?_
  refine ttok_cons ⟨by kernel_rfl, ⟨_, _, _, Try.underlying165⟩⟩ ?_
  refine ttok_cons ⟨by kernel_rfl, ⟨_, _, _, Try.underlying166⟩⟩ ?_
  refine ttok_cons ⟨by kernel_rfl, ⟨_, _, _, Try.underlying167⟩⟩ ?_
  refine ttok_cons ⟨by kernel_rfl, ⟨_, _, _, Try.underlying169⟩⟩ ?_
  refine ttok_cons ⟨by kernel_rfl, ⟨_, _, _, Try.underlying170⟩⟩ ?_
  refine ttok_cons ⟨by kernel_rfl, ⟨_, _, _, Try.underlying171⟩⟩ ?_
  refine ttok_cons ⟨by kernel_rfl, ⟨_, _, _, Try.underlying172⟩⟩ ?_
  refine ttok_cons ⟨by kernel_rfl, ⟨_, _, _, Try.underlying173⟩⟩ ?_
  refine ttok_cons ⟨by kernel_rfl, ⟨_, _, _, Try.underlying174⟩⟩ ?_
  refine ttok_cons ⟨by kernel_rfl, ⟨_, _, _, Try.underlying175⟩⟩ ?_
  refine ttok_cons ⟨by kernel_rfl, ⟨_, _, _, Try.underlying176⟩⟩ ?_
  refine ttok_cons ⟨by kernel_rfl, ⟨_, Try.underlying177, by kernel_rfl, by kernel_rfl, by kernel_rfl, by kernel_rfl, by kernel_rfl, by kernel_rfl⟩⟩ ?_
  refine ttok_cons ⟨by kernel_rfl, ⟨_, Try.underlying178, by kernel_rfl, by kernel_rfl, by kernel_rfl, by kernel_rfl, by kernel_rfl, by kernel_rfl⟩⟩ ?_
  refine ttok_cons ⟨by kernel_rfl, ⟨_, _, _, Try.underlying179⟩⟩ ?_
  refine ttok_cons ⟨by kernel_rfl, ⟨_, _, _, Try.underlying180⟩⟩ ?_
  refine ttok_cons ⟨by kernel_rfl, ⟨_, _, _, Try.underlying181⟩⟩ ?_
  refine ttok_cons ⟨by kernel_rfl, ⟨_, _, _, Try.underlying182⟩⟩ ?_
  refine ttok_cons ⟨by kernel_rfl, ⟨_, _, _, Try.underlying183⟩⟩ ?_
  refine ttok_cons ⟨by kernel_rfl, ⟨_, _, _, Try.underlying184⟩⟩ ?_
  refine ttok_cons ⟨by kernel_rfl, ⟨_, _, _, Try.underlying185⟩⟩ ?_
  refine ttok_cons ⟨by kernel_rfl, ⟨_, _, _, Try.underlying187⟩⟩ ?_
  refine ttok_cons ⟨by kernel_rfl, ⟨_, _, _, Try.underlying188⟩⟩ ?_
  refine ttok_cons ⟨by kernel_rfl, ⟨_, _, _, Try.underlying189⟩⟩ ?_
  refine ttok_cons ⟨by kernel_rfl, ⟨_, _, _, Try.underlying190⟩⟩ ?_
  refine ttok_cons ⟨by kernel_rfl, ⟨_, _, _, Try.underlying191⟩⟩ ?_
  refine ttok_cons ⟨by kernel_rfl, ⟨_, _, _, Try.underlying193⟩⟩ ?_
  refine ttok_cons ⟨by kernel_rfl, ⟨_, _, _, Try.underlying194⟩⟩ ?_
  refine ttok_cons ⟨by kernel_rfl, ⟨_, _, _, Try.underlying195⟩⟩ ?_
  refine ttok_cons ⟨by kernel_rfl, ⟨_, _, _, Try.underlying196⟩⟩ ?_
  refine ttok_cons ⟨by kernel_rfl, ⟨_, _, _, Try.underlying197⟩⟩ ?_
  refine ttok_cons ⟨by kernel_rfl, ⟨_, _, _, Try.underlying198⟩⟩ ?_
  refine ttok_cons ⟨by kernel_rfl, ⟨_, _, _, Try.underlying199⟩⟩ ?_
  refine ttok_cons ⟨by kernel_rfl, ⟨_, _, _, Try.underlying200⟩⟩ ?_
  refine ttok_cons ⟨by kernel_rfl, Try.underlying201⟩ ?_
  refine ttok_cons ⟨by kernel_rfl, ⟨_, Try.underlying202, by kernel_rfl, by kernel_rfl, by kernel_rfl, by kernel_rfl, by kernel_rfl, by kernel_rfl⟩⟩ ?_
  refine ttok_cons ⟨by kernel_rfl, ⟨_, Try.underlying203, by kernel_rfl, by kernel_rfl, by kernel_rfl, by kernel_rfl, by kernel_rfl, by kernel_rfl⟩⟩ ?_
  refine ttok_cons ⟨by kernel_rfl, ⟨_, Try.underlying204, by kernel_rfl, by kernel_rfl, by kernel_rfl, by kernel_rfl, by kernel_rfl, by kernel_rfl⟩⟩ ?_
  refine ttok_cons ⟨by kernel_rfl, ⟨_, Try.underlying205, by kernel_rfl, by kernel_rfl, by kernel_rfl, by kernel_rfl, by kernel_rfl, by kernel_rfl⟩⟩ ?_
  refine ttok_cons ⟨by kernel_rfl, ⟨_, _, _, Try.underlying206⟩⟩ ?_
  refine ttok_cons ⟨by kernel_rfl, ⟨_, _, _, Try.underlying207⟩⟩ ?_
  refine ttok_cons ⟨by kernel_rfl, ⟨_, _, _, Try.underlying208⟩⟩ ?_
  refine ttok_cons ⟨by kernel_rfl, ⟨_, _, _, Try.underlying209⟩⟩ ?_
  refine ttok_cons ⟨by kernel_rfl, ⟨_, _, _, Try.underlying210⟩⟩ ?_
  refine ttok_cons ⟨by kernel_rfl, ⟨_, _, _, Try.underlying212⟩⟩ ?_
  refine ttok_cons ⟨by kernel_rfl, ⟨_, _, _, Try.underlying213⟩⟩ ?_
  refine ttok_cons ⟨by kernel_rfl, Try.underlying214⟩ ?_
  refine ttok_cons ⟨by kernel_rfl, ⟨_, _, _, Try.underlying215⟩⟩ ?_
  refine ttok_cons ⟨by kernel_rfl, ⟨_, _, _, Try.underlying216⟩⟩ ?_
  refine ttok_cons ⟨by kernel_rfl, ⟨_, _, _, Try.underlying217⟩⟩ ?_
  refine ttok_cons ⟨by kernel_rfl, Try.underlying218⟩ ?_
  refine ttok_cons ⟨by kernel_rfl, ⟨_, _, _, Try.underlying219⟩⟩ ?_
  refine ttok_cons ⟨by kernel_rfl, ⟨_, _, _, Try.underlying220⟩⟩ ?_
  refine ttok_cons ⟨by kernel_rfl, ⟨_, _, _, Try.underlying221⟩⟩ ?_
  refine ttok_cons ⟨by kernel_rfl, ⟨_, _, _, Try.underlying222⟩⟩ ?_
  refine ttok_cons ⟨by kernel_rfl, ⟨_, _, _, Try.underlying223⟩⟩ ?_
  refine ttok_cons ⟨by kernel_rfl, ⟨_, _, _, Try.underlying224⟩⟩ ?_
  refine ttok_cons ⟨by kernel_rfl, Try.underlying225⟩ ?_
  refine ttok_cons ⟨by kernel_rfl, ⟨_, _, _, Try.underlying227⟩⟩ ?_
  refine ttok_cons ⟨by kernel_rfl, ⟨_, _, _, Try.underlying228⟩⟩ ?_
  refine ttok_cons ⟨by kernel_rfl, ⟨_, _, _, Try.underlying229⟩⟩ ?_
  refine ttok_cons ⟨by kernel_rfl, ⟨_, _, _, Try.underlying230⟩⟩ ?_
  refine ttok_cons ⟨by kernel_rfl, ⟨_, _, _, Try.underlying231⟩⟩ ?_
  refine ttok_cons ⟨by kernel_rfl, ⟨_, _, _, Try.underlying232⟩⟩ ?_
  refine ttok_cons ⟨by kernel_rfl, ⟨_, _, _, Try.underlying233⟩⟩ ?_
  refine ttok_cons ⟨by kernel_rfl, Try.underlying234⟩ ?_
  refine ttok_cons ⟨by kernel_rfl, ⟨_, _, _, Try.underlying235⟩⟩ ?_
  refine ttok_cons ⟨by kernel_rfl, ⟨_, _, _, Try.underlying236⟩⟩ ?_
  refine ttok_cons ⟨by kernel_rfl, ⟨_, _, _, Try.underlying237⟩⟩ ?_
  refine ttok_cons ⟨by kernel_rfl, Try.underlying238⟩ ?_
  refine ttok_cons ⟨by kernel_rfl, ⟨_, _, _, Try.underlying239⟩⟩ ?_
  refine ttok_cons ⟨by kernel_rfl, Try.underlying240⟩ ?_
  refine ttok_cons ⟨by kernel_rfl, ⟨_, _, _, Try.underlying241⟩⟩ ?_
  refine ttok_cons ⟨by kernel_rfl, ⟨_, _, _, Try.underlying242⟩⟩ ?_
  refine ttok_cons ⟨by kernel_rfl, Try.underlying248⟩ ?_
  refine ttok_cons ⟨by kernel_rfl, Try.underlying249⟩ ?_
  refine ttok_cons ⟨by kernel_rfl, ⟨_, _, _, Try.underlying250⟩⟩ ?_
  refine ttok_cons ⟨by kernel_rfl, Try.underlying251⟩ ?_
  refine ttok_cons ⟨by kernel_rfl, Try.underlying252⟩ ?_
  refine ttok_cons ⟨by kernel_rfl, Try.underlying253⟩ ?_
  exact ttok_nil _
theorem mix : Try.prog.follows .mixedOrders = true := by kernel_rfl
theorem cmpstr : CmpStr Try.prog 167 := CmpStr.of Try.func167 (by kernel_rfl) (by kernel_rfl) (by kernel_rfl) rfl
def Q32.f (a0 : Int) (a1 : Int) : Option (Bool) := if (decide (5 ≤ a0)) = true then (if (decide (a0 ≤ 65536)) = true then (if (decide (1 ≤ a1)) = true then (some (decide (a1 ≤ 65536))) else (some false)) else (some false)) else (some false)
theorem Q32.spec {a0 : Int} {a1 : Int}  {r : Bool} (H : Q32.f a0 a1 = some r) :
    Spec Try.prog 68 [.int .i64 a0, .int .i64 a1] [] [] (fun v l => v = .bool r ∧ l = []) := by
  refine Spec.enter Try.func68 rfl (by kernel_rfl) (by kernel_rfl) fun w0 F0 h0 => ?_
  unfold Q32.f at H
  refine J.seq (J.region ?_)
  refine RJ.run ttok 1 rfl ?_
  refine RJ.fin [(0, .int .i64 a0), (1, .int .i64 a1)] rfl ?_
  refine J.seq (J.region ?_)
  refine RJ.run ttok 3 rfl ?_
  rcases Bool.eq_false_or_eq_true (decide (5 ≤ a0)) with c1 | c1
  · replace H := ite_t c1 H
    refine RJ.know (t := 7) rfl (congrArg Value.bool c1) ?_
    refine RJ.run ttok 4 rfl ?_
    rcases Bool.eq_false_or_eq_true (decide (a0 ≤ 65536)) with c2 | c2
    · replace H := ite_t c2 H
      refine RJ.know (t := 11) rfl (congrArg Value.bool c2) ?_
      refine RJ.run ttok 4 rfl ?_
      rcases Bool.eq_false_or_eq_true (decide (1 ≤ a1)) with c3 | c3
      · replace H := ite_t c3 H
        refine RJ.know (t := 15) rfl (congrArg Value.bool c3) ?_
        refine RJ.run ttok 4 rfl ?_
        refine RJ.fin [(4, .bool (decide (a1 ≤ 65536)))] rfl ?_
        refine J.ret ?_
        obtain rfl := Option.some.inj H
        exact ⟨_, _, _, (results_slots rfl), ⟨rfl, rfl⟩, h0.only [] rfl⟩
      replace H := ite_f c3 H
      refine RJ.know (t := 15) rfl (congrArg Value.bool c3) ?_
      refine RJ.run ttok 4 rfl ?_
      refine RJ.fin [(4, .bool false)] rfl ?_
      refine J.ret ?_
      obtain rfl := Option.some.inj H
      exact ⟨_, _, _, (results_slots rfl), ⟨rfl, rfl⟩, h0.only [] rfl⟩
    replace H := ite_f c2 H
    refine RJ.know (t := 11) rfl (congrArg Value.bool c2) ?_
    refine RJ.run ttok 8 rfl ?_
    refine RJ.fin [(4, .bool false)] rfl ?_
    refine J.ret ?_
    obtain rfl := Option.some.inj H
    exact ⟨_, _, _, (results_slots rfl), ⟨rfl, rfl⟩, h0.only [] rfl⟩
  replace H := ite_f c1 H
  refine RJ.know (t := 7) rfl (congrArg Value.bool c1) ?_
  refine RJ.run ttok 12 rfl ?_
  refine RJ.fin [(4, .bool false)] rfl ?_
  refine J.ret ?_
  obtain rfl := Option.some.inj H
  exact ⟨_, _, _, (results_slots rfl), ⟨rfl, rfl⟩, h0.only [] rfl⟩

def Q31.f (a0 : Int) (a1 : Int) : Option (Option (Int × List (Int) × (Int × Int)) × Int) := (Q32.f a0 a1).bind fun r1 => (if (!r1) = true then (some (none, 2)) else (if 0 ≤ (w64 (a0 * a1)) ∧ (w64 (a0 * a1)) * 1 ≤ 281474976710656 then (some ((some (a1, (List.replicate ((w64 (a0 * a1)).toNat) (0 : Int)), (0, 0))), 0)) else none))
theorem Q31.spec {a0 : Int} {a1 : Int}  {r : Option (Int × List (Int) × (Int × Int)) × Int} (H : Q31.f a0 a1 = some r) :
    Spec Try.prog 15 [.int .i64 a0, .int .i64 a1] [] [] (fun v l => ∃ (pv : Value) (lp : List Ch), OptC r.1 (fun d pv lp => ∃ (b_0 : Nat) (A_1 : Option Addr) (c_1 : Nat), pv = .pointer (some ⟨b_0, 0, none⟩) ∧ lp = [boxC b_0 51 [.int .i64 d.1, .slice A_1 d.2.1.length c_1, .int .u64 d.2.2.1, .int .u64 d.2.2.2], ownC 5 (.int .u8) d.2.1 (.slice A_1 d.2.1.length c_1)]) pv lp ∧ v = .tuple #[pv, .int .i64 r.2] ∧ l = lp ++ []) := by
  refine Spec.enter Try.func15 rfl (by kernel_rfl) (by kernel_rfl) fun w0 F0 h0 => ?_
  unfold Q31.f at H
  refine J.seq (J.region ?_)
  refine RJ.run ttok 2 rfl ?_
  refine RJ.fin [(0, .int .i64 a0), (1, .int .i64 a1)] rfl ?_
  refine J.seq (J.seq (J.region ?_))
  refine RJ.run ttok 2 rfl ?_
  obtain ⟨r1, q1, H⟩ := bind_t H
  refine RJ.op rfl rfl (op_call [] (Q32.spec q1) rfl rfl rfl h0 rfl gnil) ?_
  rintro _ w1 ⟨_, ⟨rfl, rfl⟩, h1⟩
  replace h1 : St w0 F0 [] _ _ := h1
  refine RJ.run ttok 1 rfl ?_
  refine RJ.fin [(0, _), (1, _), (9, .bool (!r1))] rfl ?_
  refine J.cond rfl (fun c1 => ?_) (fun c1 => ?_)
  · replace H := ite_t c1 H
    refine J.seq (J.region ?_)
    refine RJ.run ttok 2 rfl ?_
    refine RJ.fin [(4, .pointer none), (5, .int .i64 2)] rfl ?_
    refine J.ret ?_
    obtain rfl := Option.some.inj H
    exact ⟨_, _, _, (results_slots rfl), ⟨_, _, OptC.no, rfl, rfl⟩, h1.only [] rfl⟩
  replace H := ite_f c1 H
  refine J.skip ?_
  refine J.seq (J.region ?_)
  refine RJ.run ttok 4 rfl ?_
  obtain ⟨⟨p1, p2⟩, H⟩ := guard_t H
  refine RJ.op rfl rfl (op_make ttok (ty := (.int .u8)) rfl (0 : Int) rfl rfl rfl rfl rfl rfl rfl (by decide) h1 p1 p2) ?_
  rintro _ w2 ⟨b1, rfl, h2⟩
  replace h2 : St w0 F0 [ownC 5 (.int .u8) (List.replicate ((w64 (a0 * a1)).toNat) (0 : Int)) (.slice (some ⟨b1, 0, none⟩) (List.replicate ((w64 (a0 * a1)).toNat) (0 : Int)).length ((w64 (a0 * a1)).toNat))] _ _ := h2
  refine RJ.run ttok 1 rfl ?_
  refine RJ.op rfl rfl (op_box rfl rfl h2) ?_
  rintro _ w3 ⟨b2, rfl, h3⟩
  replace h3 : St w0 F0 [boxC b2 51 [.int .i64 a1, .slice (some ⟨b1, 0, none⟩) (List.replicate ((w64 (a0 * a1)).toNat) (0 : Int)).length ((w64 (a0 * a1)).toNat), .int .u64 0, .int .u64 0], _] _ _ := h3
  refine RJ.run ttok 2 rfl ?_
  refine RJ.fin [(4, .pointer (some ⟨b2, 0, none⟩)), (5, .int .i64 0)] rfl ?_
  refine J.ret ?_
  obtain rfl := Option.some.inj H
  exact ⟨_, _, _, (results_slots rfl), ⟨_, _, (OptC.yes ⟨_, _, _, rfl, rfl⟩), rfl, rfl⟩, h3.only [0, 0] rfl⟩

def Q26.f (a0 : Int × List (Int) × (Int × Int)) : Option (Int) := if (decide (a0.1 = 0)) = true then (some 0) else (if 0 < a0.1 then (some (w64 (Int.tdiv (a0.2.1.length : Int) a0.1))) else none)
theorem Q26.spec {a0 : Int × List (Int) × (Int × Int)} {b1 : Nat} {A1 : Option Addr} {c_1 : Nat} {r : Int} (H : Q26.f a0 = some r) :
    Spec Try.prog 24 [.pointer (some ⟨b1, 0, none⟩)] [boxC b1 51 [.int .i64 a0.1, .slice A1 a0.2.1.length c_1, .int .u64 a0.2.2.1, .int .u64 a0.2.2.2], ownC 5 (.int .u8) a0.2.1 (.slice A1 a0.2.1.length c_1)] [] (fun v l => v = .int .i64 r ∧ l = [boxC b1 51 [.int .i64 a0.1, .slice A1 a0.2.1.length c_1, .int .u64 a0.2.2.1, .int .u64 a0.2.2.2], ownC 5 (.int .u8) a0.2.1 (.slice A1 a0.2.1.length c_1)]) := by
  refine Spec.enter Try.func24 rfl (by kernel_rfl) (by kernel_rfl) fun w0 F0 h0 => ?_
  unfold Q26.f at H
  refine J.seq (J.region ?_)
  refine RJ.run ttok 1 rfl ?_
  refine RJ.fin [(0, .pointer (some ⟨b1, 0, none⟩))] rfl ?_
  refine J.seq (J.seq (J.region ?_))
  refine RJ.run ttok 6 rfl ?_
  refine RJ.q rfl rfl (q_load_box ttok 0 h0.wht rfl rfl rfl rfl rfl) ?_
  refine RJ.run ttok 2 rfl ?_
  refine RJ.fin [(0, _), (11, .bool (decide (a0.1 = 0)))] rfl ?_
  refine J.cond rfl (fun c1 => ?_) (fun c1 => ?_)
  · replace H := ite_t c1 H
    refine J.seq (J.region ?_)
    refine RJ.run ttok 1 rfl ?_
    refine RJ.fin [(2, .int .i64 0)] rfl ?_
    refine J.ret ?_
    obtain rfl := Option.some.inj H
    exact ⟨_, _, _, (results_slots rfl), ⟨rfl, rfl⟩, h0.only [0, 0] rfl⟩
  replace H := ite_f c1 H
  refine J.skip ?_
  refine J.seq ?_
  refine J.heldSt mix h0 ?_
  have h1 := h0.drew
  refine HJ.run ttok rfl [0, 1, 2, 5, 6, 7] rfl ?_
  refine HJ.q (i := 3) rfl rfl rfl rfl rfl rfl (q_load_box ttok 0 (fun w e => e) rfl rfl rfl rfl rfl) ?_
  refine HJ.run ttok rfl [4] rfl ?_
  refine HJ.q (i := 8) rfl rfl rfl rfl rfl rfl (q_load_box ttok 0 (fun w e => e) rfl rfl rfl rfl rfl) ?_
  obtain ⟨p1, H⟩ := guard_t H
  refine HJ.q (i := 9) rfl rfl rfl rfl rfl rfl (q_quo rfl rfl rfl p1) ?_
  refine HJ.run ttok rfl [10] rfl ?_
  refine HJ.fin [(2, .int .i64 (w64 (Int.tdiv (a0.2.1.length : Int) a0.1)))] rfl rfl ?_
  refine J.ret ?_
  obtain rfl := Option.some.inj H
  exact ⟨_, _, _, (results_slots rfl), ⟨rfl, rfl⟩, h1.only [0, 0] rfl⟩

def Q23.f (a0 : Int) : Option (Option ((List (Int × Int × Bool)) × Int) × Int) := if (decide (a0 < 1)) = true then (some (none, 2)) else (if (decide (4096 < a0)) = true then (some (none, 2)) else (if 0 ≤ (w64 (a0 + 1)) ∧ (w64 (a0 + 1)) * 24 ≤ 281474976710656 then (if 0 ≤ a0 ∧ a0 < ((List.replicate ((w64 (a0 + 1)).toNat) ((0, 0, false) : Int × Int × Bool)).length : Int) then (some ((some (((List.replicate ((w64 (a0 + 1)).toNat) ((0, 0, false) : Int × Int × Bool)).set a0.toNat (a0, a0, false)), 0)), 0)) else none) else none))
theorem Q23.spec {a0 : Int}  {r : Option ((List (Int × Int × Bool)) × Int) × Int} (H : Q23.f a0 = some r) :
    Spec Try.prog 97 [.int .i64 a0] [] [] (fun v l => ∃ (pv : Value) (lp : List Ch), OptC r.1 (fun d pv lp => ∃ (b_0 : Nat) (A_1 : Option Addr) (c_1 : Nat), pv = .pointer (some ⟨b_0, 0, none⟩) ∧ lp = [boxC b_0 203 [.slice A_1 d.1.length c_1, .int .i64 d.2], ownC 205 (.pair (.int .i64) (.pair (.int .i64) .bool)) d.1 (.slice A_1 d.1.length c_1)]) pv lp ∧ v = .tuple #[pv, .int .i64 r.2] ∧ l = lp ++ []) := by
  refine Spec.enter Try.func97 rfl (by kernel_rfl) (by kernel_rfl) fun w0 F0 h0 => ?_
  unfold Q23.f at H
  refine J.seq (J.region ?_)
  refine RJ.run ttok 2 rfl ?_
  refine RJ.fin [(0, .int .i64 a0)] rfl ?_
  refine J.seq (J.seq (J.region ?_))
  refine RJ.run ttok 3 rfl ?_
  rcases Bool.eq_false_or_eq_true (decide (a0 < 1)) with c1 | c1
  · replace H := ite_t c1 H
    refine RJ.know (t := 7) rfl (congrArg Value.bool c1) ?_
    refine RJ.run ttok 3 rfl ?_
    refine RJ.fin [(0, _), (10, .bool true)] rfl ?_
    refine J.condT rfl ?_
    refine J.seq (J.region ?_)
    refine RJ.run ttok 2 rfl ?_
    refine RJ.fin [(2, .pointer none), (3, .int .i64 2)] rfl ?_
    refine J.ret ?_
    obtain rfl := Option.some.inj H
    exact ⟨_, _, _, (results_slots rfl), ⟨_, _, OptC.no, rfl, rfl⟩, h0.only [] rfl⟩
  replace H := ite_f c1 H
  refine RJ.know (t := 7) rfl (congrArg Value.bool c1) ?_
  refine RJ.run ttok 3 rfl ?_
  refine RJ.fin [(0, _), (10, .bool (decide (4096 < a0)))] rfl ?_
  refine J.cond rfl (fun c2 => ?_) (fun c2 => ?_)
  · replace H := ite_t c2 H
    refine J.seq (J.region ?_)
    refine RJ.run ttok 2 rfl ?_
    refine RJ.fin [(2, .pointer none), (3, .int .i64 2)] rfl ?_
    refine J.ret ?_
    obtain rfl := Option.some.inj H
    exact ⟨_, _, _, (results_slots rfl), ⟨_, _, OptC.no, rfl, rfl⟩, h0.only [] rfl⟩
  replace H := ite_f c2 H
  refine J.skip ?_
  refine J.seq (J.region ?_)
  refine RJ.run ttok 2 rfl ?_
  obtain ⟨⟨p1, p2⟩, H⟩ := guard_t H
  refine RJ.op rfl rfl (op_make ttok (ty := (.pair (.int .i64) (.pair (.int .i64) .bool))) rfl ((0, 0, false) : Int × Int × Bool) rfl rfl rfl rfl rfl rfl rfl (by decide) h0 p1 p2) ?_
  rintro _ w1 ⟨b1, rfl, h1⟩
  replace h1 : St w0 F0 [ownC 205 (.pair (.int .i64) (.pair (.int .i64) .bool)) (List.replicate ((w64 (a0 + 1)).toNat) ((0, 0, false) : Int × Int × Bool)) (.slice (some ⟨b1, 0, none⟩) (List.replicate ((w64 (a0 + 1)).toNat) ((0, 0, false) : Int × Int × Bool)).length ((w64 (a0 + 1)).toNat))] _ _ := h1
  refine RJ.run ttok 1 rfl ?_
  refine RJ.op rfl rfl (op_box rfl rfl h1) ?_
  rintro _ w2 ⟨b2, rfl, h2⟩
  replace h2 : St w0 F0 [boxC b2 203 [.slice (some ⟨b1, 0, none⟩) (List.replicate ((w64 (a0 + 1)).toNat) ((0, 0, false) : Int × Int × Bool)).length ((w64 (a0 + 1)).toNat), .int .i64 0], _] _ _ := h2
  refine RJ.run ttok 1 rfl ?_
  refine RJ.fin [(0, _), (4, .pointer (some ⟨b2, 0, none⟩))] rfl ?_
  refine J.seq (J.region ?_)
  refine RJ.run ttok 3 rfl ?_
  refine RJ.q rfl rfl (q_load_box ttok 0 h2.wht rfl rfl rfl rfl rfl) ?_
  refine RJ.run ttok 4 rfl ?_
  obtain ⟨⟨p3, p4⟩, H⟩ := guard_t H
  have e1 := elem_A h2.wh (Gives.of 1 rfl own_rd) p3 p4
  refine RJ.q rfl rfl (q_index ttok rfl rfl rfl rfl rfl e1 p3 p4) ?_
  refine RJ.op rfl rfl (op_store_elem (ty := (.pair (.int .i64) (.pair (.int .i64) .bool))) (f := 0) (ix := a0) ttok rfl (a0, a0, false) 1 rfl h2 rfl rfl p3 p4 rfl rfl rfl rfl rfl rfl rfl) ?_
  intro _ w3 h3
  replace h3 : St w0 F0 [ownC 205 (.pair (.int .i64) (.pair (.int .i64) .bool)) ((List.replicate ((w64 (a0 + 1)).toNat) ((0, 0, false) : Int × Int × Bool)).set a0.toNat (a0, a0, false)) (.slice (some ⟨b1, 0, none⟩) ((List.replicate ((w64 (a0 + 1)).toNat) ((0, 0, false) : Int × Int × Bool)).set a0.toNat (a0, a0, false)).length ((w64 (a0 + 1)).toNat)), _] _ _ := h3
  replace h3 : St w0 F0 [ownC 205 (.pair (.int .i64) (.pair (.int .i64) .bool)) ((List.replicate ((w64 (a0 + 1)).toNat) ((0, 0, false) : Int × Int × Bool)).set a0.toNat (a0, a0, false)) (.slice (some ⟨b1, 0, none⟩) ((List.replicate ((w64 (a0 + 1)).toNat) ((0, 0, false) : Int × Int × Bool)).set a0.toNat (a0, a0, false)).length ((w64 (a0 + 1)).toNat)), boxC b2 203 [.slice (some ⟨b1, 0, none⟩) ((List.replicate ((w64 (a0 + 1)).toNat) ((0, 0, false) : Int × Int × Bool)).set a0.toNat (a0, a0, false)).length ((w64 (a0 + 1)).toNat), .int .i64 0]] _ _ := h3.retell (by simp only [List.length_set])
  refine RJ.fin [(4, _)] rfl ?_
  refine J.seq (J.region ?_)
  refine RJ.run ttok 3 rfl ?_
  refine RJ.fin [(2, .pointer (some ⟨b2, 0, none⟩)), (3, .int .i64 0)] rfl ?_
  refine J.ret ?_
  obtain rfl := Option.some.inj H
  exact ⟨_, _, _, (results_slots rfl), ⟨_, _, (OptC.yes ⟨_, _, _, rfl, rfl⟩), rfl, rfl⟩, h3.only [1, 0] rfl⟩

def Q29.f (a0 : Int × List (Int) × (Int × Int)) : Option ((Int × Int)) := some (a0.2.2.1, a0.2.2.2)
theorem Q29.spec {a0 : Int × List (Int) × (Int × Int)} {b1 : Nat} {A1 : Option Addr} {c_1 : Nat} {r : (Int × Int)} (H : Q29.f a0 = some r) :
    Spec Try.prog 26 [.pointer (some ⟨b1, 0, none⟩)] [boxC b1 51 [.int .i64 a0.1, .slice A1 a0.2.1.length c_1, .int .u64 a0.2.2.1, .int .u64 a0.2.2.2], ownC 5 (.int .u8) a0.2.1 (.slice A1 a0.2.1.length c_1)] [] (fun v l => v = .agg #[.int .u64 r.1, .int .u64 r.2] ∧ l = [boxC b1 51 [.int .i64 a0.1, .slice A1 a0.2.1.length c_1, .int .u64 a0.2.2.1, .int .u64 a0.2.2.2], ownC 5 (.int .u8) a0.2.1 (.slice A1 a0.2.1.length c_1)]) := by
  refine Spec.enter Try.func26 rfl (by kernel_rfl) (by kernel_rfl) fun w0 F0 h0 => ?_
  unfold Q29.f at H
  refine J.seq (J.region ?_)
  refine RJ.op rfl rfl (op_alloc ttok rfl rfl h0) ?_
  rintro _ w1 ⟨b2, rfl, h1⟩
  replace h1 : St w0 F0 [boxC b2 49 [.int .u64 0, .int .u64 0], boxC b1 51 [.int .i64 a0.1, .slice A1 a0.2.1.length c_1, .int .u64 a0.2.2.1, .int .u64 a0.2.2.2], ownC 5 (.int .u8) a0.2.1 (.slice A1 a0.2.1.length c_1)] _ _ := h1
  refine RJ.fin [(0, .pointer (some ⟨b1, 0, none⟩)), (2, .pointer (some ⟨b2, 0, none⟩))] rfl ?_
  refine J.seq (J.seq (J.region ?_))
  refine RJ.run ttok 2 rfl ?_
  refine RJ.fin [(0, _), (2, _), (4, .bool false)] rfl ?_
  refine J.condF rfl ?_
  refine J.skip ?_
  refine J.seq (J.region ?_)
  refine RJ.run ttok 3 rfl ?_
  refine RJ.q rfl rfl (q_load_box ttok 1 h1.wht rfl rfl rfl rfl rfl) ?_
  refine RJ.op rfl rfl (op_store ttok 0 rfl h1 rfl rfl rfl rfl rfl rfl rfl) ?_
  intro _ w2 h2
  replace h2 : St w0 F0 [boxC b2 49 [.int .u64 a0.2.2.1, .int .u64 a0.2.2.2], _, _] _ _ := h2
  refine RJ.fin [(2, _)] rfl ?_
  refine J.ret ?_
  obtain rfl := Option.some.inj H
  exact ⟨_, _, _, (results_two rfl (rvcons (RV.cell ttok 0 h2 rfl rfl rfl rfl) rvnil) rfl), ⟨rfl, rfl⟩, h2.only [1, 1] rfl⟩

def Q12.f (a0 : (Int × List (Int) × (Int × Int)) × (List (Int × List (Int) × Bool × Int)) × (List (Int × Int)) × List (Int) × ((List (Int × Int × Bool)) × Int)) : Option (Bool) := some false
theorem Q12.spec {a0 : (Int × List (Int) × (Int × Int)) × (List (Int × List (Int) × Bool × Int)) × (List (Int × Int)) × List (Int) × ((List (Int × Int × Bool)) × Int)} {b1 : Nat} {b2 : Nat} {b3 : Nat} {b4 : Nat} {A1 : Option Addr} {c_1 : Nat} {A2 : Option Addr} {c_2 : Nat} {A3 : Option Addr} {c_3 : Nat} {A4 : Option Addr} {c_4 : Nat} {r : Bool} (H : Q12.f a0 = some r) :
    Spec Try.prog 98 [.pointer (some ⟨b1, 0, none⟩)] [boxC b1 113 [.pointer (some ⟨b2, 0, none⟩), .slice A2 a0.2.1.length c_2, .map (some b3), .slice A3 a0.2.2.2.1.length c_3, .pointer (some ⟨b4, 0, none⟩)], boxC b2 51 [.int .i64 a0.1.1, .slice A1 a0.1.2.1.length c_1, .int .u64 a0.1.2.2.1, .int .u64 a0.1.2.2.2], ownC 5 (.int .u8) a0.1.2.1 (.slice A1 a0.1.2.1.length c_1), ownC 162 (.pair (.int .u32) (.pair (.slice 5 (.int .u8)) (.pair .bool (.int .i64)))) a0.2.1 (.slice A2 a0.2.1.length c_2), mapC .u32 (Value.int .i64) b3 a0.2.2.1, ownC 3 (.int .i64) a0.2.2.2.1 (.slice A3 a0.2.2.2.1.length c_3), boxC b4 203 [.slice A4 a0.2.2.2.2.1.length c_4, .int .i64 a0.2.2.2.2.2], ownC 205 (.pair (.int .i64) (.pair (.int .i64) .bool)) a0.2.2.2.2.1 (.slice A4 a0.2.2.2.2.1.length c_4)] [] (fun v l => v = .bool r ∧ l = [boxC b1 113 [.pointer (some ⟨b2, 0, none⟩), .slice A2 a0.2.1.length c_2, .map (some b3), .slice A3 a0.2.2.2.1.length c_3, .pointer (some ⟨b4, 0, none⟩)], boxC b2 51 [.int .i64 a0.1.1, .slice A1 a0.1.2.1.length c_1, .int .u64 a0.1.2.2.1, .int .u64 a0.1.2.2.2], ownC 5 (.int .u8) a0.1.2.1 (.slice A1 a0.1.2.1.length c_1), ownC 162 (.pair (.int .u32) (.pair (.slice 5 (.int .u8)) (.pair .bool (.int .i64)))) a0.2.1 (.slice A2 a0.2.1.length c_2), mapC .u32 (Value.int .i64) b3 a0.2.2.1, ownC 3 (.int .i64) a0.2.2.2.1 (.slice A3 a0.2.2.2.1.length c_3), boxC b4 203 [.slice A4 a0.2.2.2.2.1.length c_4, .int .i64 a0.2.2.2.2.2], ownC 205 (.pair (.int .i64) (.pair (.int .i64) .bool)) a0.2.2.2.2.1 (.slice A4 a0.2.2.2.2.1.length c_4)]) := by
  refine Spec.enter Try.func98 rfl (by kernel_rfl) (by kernel_rfl) fun w0 F0 h0 => ?_
  unfold Q12.f at H
  refine J.seq (J.region ?_)
  refine RJ.run ttok 1 rfl ?_
  refine RJ.fin [(0, .pointer (some ⟨b1, 0, none⟩))] rfl ?_
  refine J.seq (J.region ?_)
  refine RJ.run ttok 6 rfl ?_
  refine RJ.q rfl rfl (q_load_box ttok 0 h0.wht rfl rfl rfl rfl rfl) ?_
  refine RJ.run ttok 3 rfl ?_
  refine RJ.fin [(2, .bool false)] rfl ?_
  refine J.ret ?_
  obtain rfl := Option.some.inj H
  exact ⟨_, _, _, (results_slots rfl), ⟨rfl, rfl⟩, h0.only [0, 0, 0, 0, 0, 0, 0, 0] rfl⟩

def Q14.f (a0 : (Int × List (Int) × (Int × Int)) × (List (Int × List (Int) × Bool × Int)) × (List (Int × Int)) × List (Int) × ((List (Int × Int × Bool)) × Int)) (a1 : Int) : Option (Int) := (Q12.f ((a0.1.1, a0.1.2.1, (a0.1.2.2.1, a0.1.2.2.2)), a0.2.1, a0.2.2.1, a0.2.2.2.1, (a0.2.2.2.2.1, a0.2.2.2.2.2))).bind fun r1 => (if r1 = true then (some 1) else ((Q26.f (a0.1.1, a0.1.2.1, (a0.1.2.2.1, a0.1.2.2.2))).bind fun r2 => (if (decide (r2 ≤ (w64 (a1)))) = true then (some 4) else (some 0))))
theorem Q14.spec {a0 : (Int × List (Int) × (Int × Int)) × (List (Int × List (Int) × Bool × Int)) × (List (Int × Int)) × List (Int) × ((List (Int × Int × Bool)) × Int)} {a1 : Int} {b1 : Nat} {b2 : Nat} {b3 : Nat} {b4 : Nat} {A1 : Option Addr} {c_1 : Nat} {A2 : Option Addr} {c_2 : Nat} {A3 : Option Addr} {c_3 : Nat} {A4 : Option Addr} {c_4 : Nat} {r : Int} (H : Q14.f a0 a1 = some r) :
    Spec Try.prog 103 [.pointer (some ⟨b1, 0, none⟩), .int .u32 a1] [boxC b1 113 [.pointer (some ⟨b2, 0, none⟩), .slice A2 a0.2.1.length c_2, .map (some b3), .slice A3 a0.2.2.2.1.length c_3, .pointer (some ⟨b4, 0, none⟩)], boxC b2 51 [.int .i64 a0.1.1, .slice A1 a0.1.2.1.length c_1, .int .u64 a0.1.2.2.1, .int .u64 a0.1.2.2.2], ownC 5 (.int .u8) a0.1.2.1 (.slice A1 a0.1.2.1.length c_1), ownC 162 (.pair (.int .u32) (.pair (.slice 5 (.int .u8)) (.pair .bool (.int .i64)))) a0.2.1 (.slice A2 a0.2.1.length c_2), mapC .u32 (Value.int .i64) b3 a0.2.2.1, ownC 3 (.int .i64) a0.2.2.2.1 (.slice A3 a0.2.2.2.1.length c_3), boxC b4 203 [.slice A4 a0.2.2.2.2.1.length c_4, .int .i64 a0.2.2.2.2.2], ownC 205 (.pair (.int .i64) (.pair (.int .i64) .bool)) a0.2.2.2.2.1 (.slice A4 a0.2.2.2.2.1.length c_4)] [] (fun v l => v = .int .i64 r ∧ l = [boxC b1 113 [.pointer (some ⟨b2, 0, none⟩), .slice A2 a0.2.1.length c_2, .map (some b3), .slice A3 a0.2.2.2.1.length c_3, .pointer (some ⟨b4, 0, none⟩)], boxC b2 51 [.int .i64 a0.1.1, .slice A1 a0.1.2.1.length c_1, .int .u64 a0.1.2.2.1, .int .u64 a0.1.2.2.2], ownC 5 (.int .u8) a0.1.2.1 (.slice A1 a0.1.2.1.length c_1), ownC 162 (.pair (.int .u32) (.pair (.slice 5 (.int .u8)) (.pair .bool (.int .i64)))) a0.2.1 (.slice A2 a0.2.1.length c_2), mapC .u32 (Value.int .i64) b3 a0.2.2.1, ownC 3 (.int .i64) a0.2.2.2.1 (.slice A3 a0.2.2.2.1.length c_3), boxC b4 203 [.slice A4 a0.2.2.2.2.1.length c_4, .int .i64 a0.2.2.2.2.2], ownC 205 (.pair (.int .i64) (.pair (.int .i64) .bool)) a0.2.2.2.2.1 (.slice A4 a0.2.2.2.2.1.length c_4)]) := by
  refine Spec.enter Try.func103 rfl (by kernel_rfl) (by kernel_rfl) fun w0 F0 h0 => ?_
  unfold Q14.f at H
  refine J.seq (J.region ?_)
  refine RJ.run ttok 1 rfl ?_
  refine RJ.fin [(0, .pointer (some ⟨b1, 0, none⟩)), (1, .int .u32 a1)] rfl ?_
  refine J.seq (J.block (J.seq (J.region ?_)))
  refine RJ.run ttok 1 rfl ?_
  obtain ⟨r1, q1, H⟩ := bind_t H
  refine RJ.op rfl rfl (op_call [0, 0, 0, 0, 0, 0, 0, 0] (Q12.spec q1) rfl rfl rfl h0 rfl gnil) ?_
  rintro _ w1 ⟨_, ⟨rfl, rfl⟩, h1⟩
  replace h1 : St w0 F0 [boxC b1 113 [.pointer (some ⟨b2, 0, none⟩), .slice A2 a0.2.1.length c_2, .map (some b3), .slice A3 a0.2.2.2.1.length c_3, .pointer (some ⟨b4, 0, none⟩)], boxC b2 51 [.int .i64 a0.1.1, .slice A1 a0.1.2.1.length c_1, .int .u64 a0.1.2.2.1, .int .u64 a0.1.2.2.2], ownC 5 (.int .u8) a0.1.2.1 (.slice A1 a0.1.2.1.length c_1), ownC 162 (.pair (.int .u32) (.pair (.slice 5 (.int .u8)) (.pair .bool (.int .i64)))) a0.2.1 (.slice A2 a0.2.1.length c_2), mapC .u32 (Value.int .i64) b3 a0.2.2.1, ownC 3 (.int .i64) a0.2.2.2.1 (.slice A3 a0.2.2.2.1.length c_3), boxC b4 203 [.slice A4 a0.2.2.2.2.1.length c_4, .int .i64 a0.2.2.2.2.2], ownC 205 (.pair (.int .i64) (.pair (.int .i64) .bool)) a0.2.2.2.2.1 (.slice A4 a0.2.2.2.2.1.length c_4)] _ _ := h1
  refine RJ.run ttok 1 rfl ?_
  refine RJ.fin [(0, _), (1, _), (5, .bool r1)] rfl ?_
  refine J.cond rfl (fun c1 => ?_) (fun c1 => ?_)
  · replace H := ite_t c1 H
    refine J.seq (J.region ?_)
    refine RJ.run ttok 1 rfl ?_
    refine RJ.fin [(4, .int .i64 1)] rfl ?_
    refine J.ret ?_
    obtain rfl := Option.some.inj H
    exact ⟨_, _, _, (results_slots rfl), ⟨rfl, rfl⟩, h1.only [0, 0, 0, 0, 0, 0, 0, 0] rfl⟩
  replace H := ite_f c1 H
  refine J.seq (J.region ?_)
  refine RJ.run ttok 5 rfl ?_
  refine RJ.q rfl rfl (q_load_box ttok 0 h1.wht rfl rfl rfl rfl rfl) ?_
  obtain ⟨r2, q2, H⟩ := bind_t H
  refine RJ.op rfl rfl (op_call [1, 1] (Q26.spec q2) rfl rfl rfl h1 rfl gnil) ?_
  rintro _ w2 ⟨_, ⟨rfl, rfl⟩, h2⟩
  replace h2 : St w0 F0 [_, _, _, _, _, _, _, _] _ _ := h2
  refine RJ.run ttok 2 rfl ?_
  refine RJ.fin [(8, .bool (decide (r2 ≤ (w64 (a1)))))] rfl ?_
  refine J.cond rfl (fun c2 => ?_) (fun c2 => ?_)
  · replace H := ite_t c2 H
    refine J.seq (J.region ?_)
    refine RJ.run ttok 1 rfl ?_
    refine RJ.fin [(4, .int .i64 4)] rfl ?_
    refine J.ret ?_
    obtain rfl := Option.some.inj H
    exact ⟨_, _, _, (results_slots rfl), ⟨rfl, rfl⟩, h2.only [2, 0, 0, 0, 0, 0, 0, 0] rfl⟩
  replace H := ite_f c2 H
  refine J.skip ?_
  refine J.seq (J.region ?_)
  refine RJ.run ttok 1 rfl ?_
  refine RJ.fin [(4, .int .i64 0)] rfl ?_
  refine J.ret ?_
  obtain rfl := Option.some.inj H
  exact ⟨_, _, _, (results_slots rfl), ⟨rfl, rfl⟩, h2.only [2, 0, 0, 0, 0, 0, 0, 0] rfl⟩

def Q21.f (a0 : (List (Int × Int × Bool)) × Int) : Option (Int) := some (w64 ((a0.1.length : Int) - 1))
theorem Q21.spec {a0 : (List (Int × Int × Bool)) × Int} {b1 : Nat} {A1 : Option Addr} {c_1 : Nat} {r : Int} (H : Q21.f a0 = some r) :
    Spec Try.prog 150 [.pointer (some ⟨b1, 0, none⟩)] [boxC b1 203 [.slice A1 a0.1.length c_1, .int .i64 a0.2], ownC 205 (.pair (.int .i64) (.pair (.int .i64) .bool)) a0.1 (.slice A1 a0.1.length c_1)] [] (fun v l => v = .int .i64 r ∧ l = [boxC b1 203 [.slice A1 a0.1.length c_1, .int .i64 a0.2], ownC 205 (.pair (.int .i64) (.pair (.int .i64) .bool)) a0.1 (.slice A1 a0.1.length c_1)]) := by
  refine Spec.enter Try.func150 rfl (by kernel_rfl) (by kernel_rfl) fun w0 F0 h0 => ?_
  unfold Q21.f at H
  refine J.seq (J.region ?_)
  refine RJ.run ttok 1 rfl ?_
  refine RJ.fin [(0, .pointer (some ⟨b1, 0, none⟩))] rfl ?_
  refine J.seq (J.region ?_)
  refine RJ.run ttok 3 rfl ?_
  refine RJ.q rfl rfl (q_load_box ttok 0 h0.wht rfl rfl rfl rfl rfl) ?_
  refine RJ.run ttok 3 rfl ?_
  refine RJ.fin [(2, .int .i64 (w64 ((a0.1.length : Int) - 1)))] rfl ?_
  refine J.ret ?_
  obtain rfl := Option.some.inj H
  exact ⟨_, _, _, (results_slots rfl), ⟨rfl, rfl⟩, h0.only [0, 0] rfl⟩

def Q22.f (a0 : (List (Int × Int × Bool)) × Int) (a1 : Int) : Option (Int) := if (decide ((a0.1.length : Int) = 0)) = true then (some 1) else (if (decide (a1 < 0)) = true then (some 4) else ((Q21.f (a0.1, a0.2)).bind fun r1 => (if (decide (r1 ≤ a1)) = true then (some 4) else (some 0))))
theorem Q22.spec {a0 : (List (Int × Int × Bool)) × Int} {a1 : Int} {b1 : Nat} {A1 : Option Addr} {c_1 : Nat} {r : Int} (H : Q22.f a0 a1 = some r) :
    Spec Try.prog 146 [.pointer (some ⟨b1, 0, none⟩), .int .i64 a1] [boxC b1 203 [.slice A1 a0.1.length c_1, .int .i64 a0.2], ownC 205 (.pair (.int .i64) (.pair (.int .i64) .bool)) a0.1 (.slice A1 a0.1.length c_1)] [] (fun v l => v = .int .i64 r ∧ l = [boxC b1 203 [.slice A1 a0.1.length c_1, .int .i64 a0.2], ownC 205 (.pair (.int .i64) (.pair (.int .i64) .bool)) a0.1 (.slice A1 a0.1.length c_1)]) := by
  refine Spec.enter Try.func146 rfl (by kernel_rfl) (by kernel_rfl) fun w0 F0 h0 => ?_
  unfold Q22.f at H
  refine J.seq (J.region ?_)
  refine RJ.run ttok 1 rfl ?_
  refine RJ.fin [(0, .pointer (some ⟨b1, 0, none⟩)), (1, .int .i64 a1)] rfl ?_
  refine J.seq (J.block (J.seq (J.region ?_)))
  refine RJ.run ttok 6 rfl ?_
  refine RJ.q rfl rfl (q_load_box ttok 0 h0.wht rfl rfl rfl rfl rfl) ?_
  refine RJ.run ttok 4 rfl ?_
  refine RJ.fin [(0, _), (1, _), (5, .bool (decide ((a0.1.length : Int) = 0)))] rfl ?_
  refine J.cond rfl (fun c1 => ?_) (fun c1 => ?_)
  · replace H := ite_t c1 H
    refine J.seq (J.region ?_)
    refine RJ.run ttok 1 rfl ?_
    refine RJ.fin [(4, .int .i64 1)] rfl ?_
    refine J.ret ?_
    obtain rfl := Option.some.inj H
    exact ⟨_, _, _, (results_slots rfl), ⟨rfl, rfl⟩, h0.only [0, 0] rfl⟩
  replace H := ite_f c1 H
  refine J.seq (J.region ?_)
  refine RJ.run ttok 3 rfl ?_
  rcases Bool.eq_false_or_eq_true (decide (a1 < 0)) with c2 | c2
  · replace H := ite_t c2 H
    refine RJ.know (t := 19) rfl (congrArg Value.bool c2) ?_
    refine RJ.run ttok 6 rfl ?_
    refine RJ.fin [(16, .bool true)] rfl ?_
    refine J.condT rfl ?_
    refine J.seq (J.region ?_)
    refine RJ.run ttok 1 rfl ?_
    refine RJ.fin [(4, .int .i64 4)] rfl ?_
    refine J.ret ?_
    obtain rfl := Option.some.inj H
    exact ⟨_, _, _, (results_slots rfl), ⟨rfl, rfl⟩, h0.only [0, 0] rfl⟩
  replace H := ite_f c2 H
  refine RJ.know (t := 19) rfl (congrArg Value.bool c2) ?_
  refine RJ.run ttok 2 rfl ?_
  obtain ⟨r1, q1, H⟩ := bind_t H
  refine RJ.op rfl rfl (op_call [0, 0] (Q21.spec q1) rfl rfl rfl h0 rfl gnil) ?_
  rintro _ w1 ⟨_, ⟨rfl, rfl⟩, h1⟩
  replace h1 : St w0 F0 [boxC b1 203 [.slice A1 a0.1.length c_1, .int .i64 a0.2], ownC 205 (.pair (.int .i64) (.pair (.int .i64) .bool)) a0.1 (.slice A1 a0.1.length c_1)] _ _ := h1
  refine RJ.run ttok 3 rfl ?_
  refine RJ.fin [(16, .bool (decide (r1 ≤ a1)))] rfl ?_
  refine J.cond rfl (fun c3 => ?_) (fun c3 => ?_)
  · replace H := ite_t c3 H
    refine J.seq (J.region ?_)
    refine RJ.run ttok 1 rfl ?_
    refine RJ.fin [(4, .int .i64 4)] rfl ?_
    refine J.ret ?_
    obtain rfl := Option.some.inj H
    exact ⟨_, _, _, (results_slots rfl), ⟨rfl, rfl⟩, h1.only [0, 0] rfl⟩
  replace H := ite_f c3 H
  refine J.skip ?_
  refine J.seq (J.region ?_)
  refine RJ.run ttok 1 rfl ?_
  refine RJ.fin [(4, .int .i64 0)] rfl ?_
  refine J.ret ?_
  obtain rfl := Option.some.inj H
  exact ⟨_, _, _, (results_slots rfl), ⟨rfl, rfl⟩, h1.only [0, 0] rfl⟩

def Q19.f (a0 : (List (Int × Int × Bool)) × Int) (a1 : Int) : Option (((List (Int × Int × Bool)) × Int)) := if 0 ≤ a1 ∧ a1 < (a0.1.length : Int) then (if (!((gt a0.1 a1).2.2)) = true then (some (a0.1, a0.2)) else (if 0 ≤ ((gt a0.1 a1).1) ∧ ((gt a0.1 a1).1) < (a0.1.length : Int) then (if 0 ≤ ((gt a0.1 a1).2.1) ∧ ((gt a0.1 a1).2.1) < ((a0.1.set ((gt a0.1 a1).1).toNat ((gt a0.1 ((gt a0.1 a1).1)).1, (gt a0.1 a1).2.1, (gt a0.1 ((gt a0.1 a1).1)).2.2)).length : Int) then (if 0 ≤ a1 ∧ a1 < (((a0.1.set ((gt a0.1 a1).1).toNat ((gt a0.1 ((gt a0.1 a1).1)).1, (gt a0.1 a1).2.1, (gt a0.1 ((gt a0.1 a1).1)).2.2)).set ((gt a0.1 a1).2.1).toNat ((gt a0.1 a1).1, (gt (a0.1.set ((gt a0.1 a1).1).toNat ((gt a0.1 ((gt a0.1 a1).1)).1, (gt a0.1 a1).2.1, (gt a0.1 ((gt a0.1 a1).1)).2.2)) ((gt a0.1 a1).2.1)).2.1, (gt (a0.1.set ((gt a0.1 a1).1).toNat ((gt a0.1 ((gt a0.1 a1).1)).1, (gt a0.1 a1).2.1, (gt a0.1 ((gt a0.1 a1).1)).2.2)) ((gt a0.1 a1).2.1)).2.2)).length : Int) then (some ((((a0.1.set ((gt a0.1 a1).1).toNat ((gt a0.1 ((gt a0.1 a1).1)).1, (gt a0.1 a1).2.1, (gt a0.1 ((gt a0.1 a1).1)).2.2)).set ((gt a0.1 a1).2.1).toNat ((gt a0.1 a1).1, (gt (a0.1.set ((gt a0.1 a1).1).toNat ((gt a0.1 ((gt a0.1 a1).1)).1, (gt a0.1 a1).2.1, (gt a0.1 ((gt a0.1 a1).1)).2.2)) ((gt a0.1 a1).2.1)).2.1, (gt (a0.1.set ((gt a0.1 a1).1).toNat ((gt a0.1 ((gt a0.1 a1).1)).1, (gt a0.1 a1).2.1, (gt a0.1 ((gt a0.1 a1).1)).2.2)) ((gt a0.1 a1).2.1)).2.2)).set a1.toNat (0, 0, false)), (w64 (a0.2 - 1)))) else none) else none) else none)) else none
theorem Q19.spec {a0 : (List (Int × Int × Bool)) × Int} {a1 : Int} {b1 : Nat} {A1 : Option Addr} {c_1 : Nat} {r : ((List (Int × Int × Bool)) × Int)} (H : Q19.f a0 a1 = some r) :
    Spec Try.prog 147 [.pointer (some ⟨b1, 0, none⟩), .int .i64 a1] [boxC b1 203 [.slice A1 a0.1.length c_1, .int .i64 a0.2], ownC 205 (.pair (.int .i64) (.pair (.int .i64) .bool)) a0.1 (.slice A1 a0.1.length c_1)] [] (fun v l => ∃ (A_0 : Option Addr) (c_0 : Nat), v = .tuple #[] ∧ l = [boxC b1 203 [.slice A_0 r.1.length c_0, .int .i64 r.2], ownC 205 (.pair (.int .i64) (.pair (.int .i64) .bool)) r.1 (.slice A_0 r.1.length c_0)]) := by
  refine Spec.enter Try.func147 rfl (by kernel_rfl) (by kernel_rfl) fun w0 F0 h0 => ?_
  unfold Q19.f at H
  refine J.seq (J.region ?_)
  refine RJ.run ttok 3 rfl ?_
  refine RJ.q rfl rfl (q_load_box ttok 0 h0.wht rfl rfl rfl rfl rfl) ?_
  refine RJ.run ttok 1 rfl ?_
  obtain ⟨⟨p1, p2⟩, H⟩ := guard_t H
  have e1 := elem_A h0.wh (Gives.of 1 rfl own_rd) p1 p2
  refine RJ.q rfl rfl (q_index ttok rfl rfl rfl rfl rfl e1 p1 p2) ?_
  refine RJ.q rfl rfl (q_load_elem (f := 0) ttok rfl h0.wht (Gives.of 1 rfl own_rd) p1 p2 rfl rfl rfl rfl rfl) ?_
  refine RJ.op rfl rfl (op_alloc ttok rfl rfl h0) ?_
  rintro _ w1 ⟨b2, rfl, h1⟩
  replace h1 : St w0 F0 [boxC b2 205 [.int .i64 0, .int .i64 0, .bool false], boxC b1 203 [.slice A1 a0.1.length c_1, .int .i64 a0.2], ownC 205 (.pair (.int .i64) (.pair (.int .i64) .bool)) a0.1 (.slice A1 a0.1.length c_1)] _ _ := h1
  refine RJ.op rfl rfl (op_store ttok 0 rfl h1 rfl rfl rfl rfl rfl rfl rfl) ?_
  intro _ w2 h2
  replace h2 : St w0 F0 [boxC b2 205 [.int .i64 ((gt a0.1 a1).1), .int .i64 ((gt a0.1 a1).2.1), .bool ((gt a0.1 a1).2.2)], _, _] _ _ := h2
  refine RJ.fin [(0, .pointer (some ⟨b1, 0, none⟩)), (1, .int .i64 a1), (4, .pointer (some ⟨b2, 0, none⟩))] rfl ?_
  refine J.seq (J.seq (J.region ?_))
  refine RJ.run ttok 1 rfl ?_
  refine RJ.q rfl rfl (q_load_box ttok 0 h2.wht rfl rfl rfl rfl rfl) ?_
  refine RJ.run ttok 1 rfl ?_
  refine RJ.fin [(0, _), (1, _), (4, _), (14, .bool (!((gt a0.1 a1).2.2)))] rfl ?_
  refine J.cond rfl (fun c1 => ?_) (fun c1 => ?_)
  · replace H := ite_t c1 H
    refine J.ret ?_
    obtain rfl := Option.some.inj H
    exact ⟨_, _, _, (results_slots rfl), ⟨_, _, rfl, rfl⟩, h2.only [1, 1] rfl⟩
  replace H := ite_f c1 H
  refine J.skip ?_
  refine J.seq ?_
  refine J.heldSt mix (h2.only [0, 0] rfl) ?_
  have h3 := h2.drew
  refine HJ.run ttok rfl [0, 1, 2, 4, 6] rfl ?_
  refine HJ.q (i := 3) rfl rfl rfl rfl rfl rfl (q_load_box ttok 1 (fun w e => e) rfl rfl rfl rfl rfl) ?_
  refine HJ.q (i := 5) rfl rfl rfl rfl rfl rfl (q_load_box ttok 0 (fun w e => e) rfl rfl rfl rfl rfl) ?_
  refine HJ.q (i := 7) rfl rfl rfl rfl rfl rfl (q_load_box ttok 0 (fun w e => e) rfl rfl rfl rfl rfl) ?_
  obtain ⟨⟨p3, p4⟩, H⟩ := guard_t H
  refine HJ.q (i := 8) rfl rfl rfl rfl rfl rfl (q_index ttok rfl rfl rfl rfl rfl e1 p3 p4) ?_
  refine HJ.run ttok rfl [9] rfl ?_
  refine HJ.op (i := 10) rfl rfl rfl rfl rfl (op_store_elem (ty := (.pair (.int .i64) (.pair (.int .i64) .bool))) (f := 1) (ix := ((gt a0.1 a1).1)) ttok rfl ((gt a0.1 ((gt a0.1 a1).1)).1, (gt a0.1 a1).2.1, (gt a0.1 ((gt a0.1 a1).1)).2.2) 2 rfl h3 rfl rfl p3 p4 rfl rfl rfl rfl rfl rfl rfl) ?_
  intro _ w3 h4
  replace h4 : St w0 F0 [ownC 205 (.pair (.int .i64) (.pair (.int .i64) .bool)) (a0.1.set ((gt a0.1 a1).1).toNat ((gt a0.1 ((gt a0.1 a1).1)).1, (gt a0.1 a1).2.1, (gt a0.1 ((gt a0.1 a1).1)).2.2)) (.slice A1 (a0.1.set ((gt a0.1 a1).1).toNat ((gt a0.1 ((gt a0.1 a1).1)).1, (gt a0.1 a1).2.1, (gt a0.1 ((gt a0.1 a1).1)).2.2)).length c_1), _, _] _ _ := h4
  refine ⟨⟨[_], h4⟩, ?_⟩
  replace h4 : St w0 F0 [ownC 205 (.pair (.int .i64) (.pair (.int .i64) .bool)) (a0.1.set ((gt a0.1 a1).1).toNat ((gt a0.1 ((gt a0.1 a1).1)).1, (gt a0.1 a1).2.1, (gt a0.1 ((gt a0.1 a1).1)).2.2)) (.slice A1 (a0.1.set ((gt a0.1 a1).1).toNat ((gt a0.1 ((gt a0.1 a1).1)).1, (gt a0.1 a1).2.1, (gt a0.1 ((gt a0.1 a1).1)).2.2)).length c_1), boxC b2 205 [.int .i64 ((gt a0.1 a1).1), .int .i64 ((gt a0.1 a1).2.1), .bool ((gt a0.1 a1).2.2)], boxC b1 203 [.slice A1 (a0.1.set ((gt a0.1 a1).1).toNat ((gt a0.1 ((gt a0.1 a1).1)).1, (gt a0.1 a1).2.1, (gt a0.1 ((gt a0.1 a1).1)).2.2)).length c_1, .int .i64 a0.2]] _ _ := h4.retell (by simp only [List.length_set])
  refine HJ.fin [(0, _), (1, _), (4, _)] rfl rfl ?_
  refine J.seq ?_
  refine J.heldSt mix (h4.only [1, 1] rfl) ?_
  have h5 := h4.drew
  refine HJ.run ttok rfl [0, 1, 2, 4, 6] rfl ?_
  refine HJ.q (i := 3) rfl rfl rfl rfl rfl rfl (q_load_box ttok 1 (fun w e => e) rfl rfl rfl rfl rfl) ?_
  refine HJ.q (i := 5) rfl rfl rfl rfl rfl rfl (q_load_box ttok 0 (fun w e => e) rfl rfl rfl rfl rfl) ?_
  refine HJ.q (i := 7) rfl rfl rfl rfl rfl rfl (q_load_box ttok 0 (fun w e => e) rfl rfl rfl rfl rfl) ?_
  obtain ⟨⟨p5, p6⟩, H⟩ := guard_t H
  refine HJ.q (i := 8) rfl rfl rfl rfl rfl rfl (q_index ttok rfl rfl rfl rfl rfl e1 p5 p6) ?_
  refine HJ.run ttok rfl [9] rfl ?_
  refine HJ.op (i := 10) rfl rfl rfl rfl rfl (op_store_elem (ty := (.pair (.int .i64) (.pair (.int .i64) .bool))) (f := 0) (ix := ((gt a0.1 a1).2.1)) ttok rfl ((gt a0.1 a1).1, (gt (a0.1.set ((gt a0.1 a1).1).toNat ((gt a0.1 ((gt a0.1 a1).1)).1, (gt a0.1 a1).2.1, (gt a0.1 ((gt a0.1 a1).1)).2.2)) ((gt a0.1 a1).2.1)).2.1, (gt (a0.1.set ((gt a0.1 a1).1).toNat ((gt a0.1 ((gt a0.1 a1).1)).1, (gt a0.1 a1).2.1, (gt a0.1 ((gt a0.1 a1).1)).2.2)) ((gt a0.1 a1).2.1)).2.2) 0 rfl h5 rfl rfl p5 p6 rfl rfl rfl rfl rfl rfl rfl) ?_
  intro _ w4 h6
  replace h6 : St w0 F0 [ownC 205 (.pair (.int .i64) (.pair (.int .i64) .bool)) ((a0.1.set ((gt a0.1 a1).1).toNat ((gt a0.1 ((gt a0.1 a1).1)).1, (gt a0.1 a1).2.1, (gt a0.1 ((gt a0.1 a1).1)).2.2)).set ((gt a0.1 a1).2.1).toNat ((gt a0.1 a1).1, (gt (a0.1.set ((gt a0.1 a1).1).toNat ((gt a0.1 ((gt a0.1 a1).1)).1, (gt a0.1 a1).2.1, (gt a0.1 ((gt a0.1 a1).1)).2.2)) ((gt a0.1 a1).2.1)).2.1, (gt (a0.1.set ((gt a0.1 a1).1).toNat ((gt a0.1 ((gt a0.1 a1).1)).1, (gt a0.1 a1).2.1, (gt a0.1 ((gt a0.1 a1).1)).2.2)) ((gt a0.1 a1).2.1)).2.2)) (.slice A1 ((a0.1.set ((gt a0.1 a1).1).toNat ((gt a0.1 ((gt a0.1 a1).1)).1, (gt a0.1 a1).2.1, (gt a0.1 ((gt a0.1 a1).1)).2.2)).set ((gt a0.1 a1).2.1).toNat ((gt a0.1 a1).1, (gt (a0.1.set ((gt a0.1 a1).1).toNat ((gt a0.1 ((gt a0.1 a1).1)).1, (gt a0.1 a1).2.1, (gt a0.1 ((gt a0.1 a1).1)).2.2)) ((gt a0.1 a1).2.1)).2.1, (gt (a0.1.set ((gt a0.1 a1).1).toNat ((gt a0.1 ((gt a0.1 a1).1)).1, (gt a0.1 a1).2.1, (gt a0.1 ((gt a0.1 a1).1)).2.2)) ((gt a0.1 a1).2.1)).2.2)).length c_1), _, boxC b1 203 [.slice A1 (a0.1.set ((gt a0.1 a1).1).toNat ((gt a0.1 ((gt a0.1 a1).1)).1, (gt a0.1 a1).2.1, (gt a0.1 ((gt a0.1 a1).1)).2.2)).length c_1, .int .i64 a0.2]] _ _ := h6
  refine ⟨⟨[_], h6⟩, ?_⟩
  replace h6 : St w0 F0 [ownC 205 (.pair (.int .i64) (.pair (.int .i64) .bool)) ((a0.1.set ((gt a0.1 a1).1).toNat ((gt a0.1 ((gt a0.1 a1).1)).1, (gt a0.1 a1).2.1, (gt a0.1 ((gt a0.1 a1).1)).2.2)).set ((gt a0.1 a1).2.1).toNat ((gt a0.1 a1).1, (gt (a0.1.set ((gt a0.1 a1).1).toNat ((gt a0.1 ((gt a0.1 a1).1)).1, (gt a0.1 a1).2.1, (gt a0.1 ((gt a0.1 a1).1)).2.2)) ((gt a0.1 a1).2.1)).2.1, (gt (a0.1.set ((gt a0.1 a1).1).toNat ((gt a0.1 ((gt a0.1 a1).1)).1, (gt a0.1 a1).2.1, (gt a0.1 ((gt a0.1 a1).1)).2.2)) ((gt a0.1 a1).2.1)).2.2)) (.slice A1 ((a0.1.set ((gt a0.1 a1).1).toNat ((gt a0.1 ((gt a0.1 a1).1)).1, (gt a0.1 a1).2.1, (gt a0.1 ((gt a0.1 a1).1)).2.2)).set ((gt a0.1 a1).2.1).toNat ((gt a0.1 a1).1, (gt (a0.1.set ((gt a0.1 a1).1).toNat ((gt a0.1 ((gt a0.1 a1).1)).1, (gt a0.1 a1).2.1, (gt a0.1 ((gt a0.1 a1).1)).2.2)) ((gt a0.1 a1).2.1)).2.1, (gt (a0.1.set ((gt a0.1 a1).1).toNat ((gt a0.1 ((gt a0.1 a1).1)).1, (gt a0.1 a1).2.1, (gt a0.1 ((gt a0.1 a1).1)).2.2)) ((gt a0.1 a1).2.1)).2.2)).length c_1), boxC b2 205 [.int .i64 ((gt a0.1 a1).1), .int .i64 ((gt a0.1 a1).2.1), .bool ((gt a0.1 a1).2.2)], boxC b1 203 [.slice A1 ((a0.1.set ((gt a0.1 a1).1).toNat ((gt a0.1 ((gt a0.1 a1).1)).1, (gt a0.1 a1).2.1, (gt a0.1 ((gt a0.1 a1).1)).2.2)).set ((gt a0.1 a1).2.1).toNat ((gt a0.1 a1).1, (gt (a0.1.set ((gt a0.1 a1).1).toNat ((gt a0.1 ((gt a0.1 a1).1)).1, (gt a0.1 a1).2.1, (gt a0.1 ((gt a0.1 a1).1)).2.2)) ((gt a0.1 a1).2.1)).2.1, (gt (a0.1.set ((gt a0.1 a1).1).toNat ((gt a0.1 ((gt a0.1 a1).1)).1, (gt a0.1 a1).2.1, (gt a0.1 ((gt a0.1 a1).1)).2.2)) ((gt a0.1 a1).2.1)).2.2)).length c_1, .int .i64 a0.2]] _ _ := h6.retell (by simp only [List.length_set])
  refine HJ.fin [(0, _), (1, _)] rfl rfl ?_
  refine J.seq (J.region ?_)
  refine RJ.run ttok 3 rfl ?_
  refine RJ.q rfl rfl (q_load_box ttok 2 h6.wht rfl rfl rfl rfl rfl) ?_
  refine RJ.run ttok 2 rfl ?_
  obtain ⟨⟨p7, p8⟩, H⟩ := guard_t H
  refine RJ.q rfl rfl (q_index ttok rfl rfl rfl rfl rfl e1 p7 p8) ?_
  refine RJ.op rfl rfl (op_store_elem (ty := (.pair (.int .i64) (.pair (.int .i64) .bool))) (f := 0) (ix := a1) ttok rfl (0, 0, false) 0 rfl h6 rfl rfl p7 p8 rfl rfl rfl rfl rfl rfl rfl) ?_
  intro _ w5 h7
  replace h7 : St w0 F0 [ownC 205 (.pair (.int .i64) (.pair (.int .i64) .bool)) (((a0.1.set ((gt a0.1 a1).1).toNat ((gt a0.1 ((gt a0.1 a1).1)).1, (gt a0.1 a1).2.1, (gt a0.1 ((gt a0.1 a1).1)).2.2)).set ((gt a0.1 a1).2.1).toNat ((gt a0.1 a1).1, (gt (a0.1.set ((gt a0.1 a1).1).toNat ((gt a0.1 ((gt a0.1 a1).1)).1, (gt a0.1 a1).2.1, (gt a0.1 ((gt a0.1 a1).1)).2.2)) ((gt a0.1 a1).2.1)).2.1, (gt (a0.1.set ((gt a0.1 a1).1).toNat ((gt a0.1 ((gt a0.1 a1).1)).1, (gt a0.1 a1).2.1, (gt a0.1 ((gt a0.1 a1).1)).2.2)) ((gt a0.1 a1).2.1)).2.2)).set a1.toNat (0, 0, false)) (.slice A1 (((a0.1.set ((gt a0.1 a1).1).toNat ((gt a0.1 ((gt a0.1 a1).1)).1, (gt a0.1 a1).2.1, (gt a0.1 ((gt a0.1 a1).1)).2.2)).set ((gt a0.1 a1).2.1).toNat ((gt a0.1 a1).1, (gt (a0.1.set ((gt a0.1 a1).1).toNat ((gt a0.1 ((gt a0.1 a1).1)).1, (gt a0.1 a1).2.1, (gt a0.1 ((gt a0.1 a1).1)).2.2)) ((gt a0.1 a1).2.1)).2.1, (gt (a0.1.set ((gt a0.1 a1).1).toNat ((gt a0.1 ((gt a0.1 a1).1)).1, (gt a0.1 a1).2.1, (gt a0.1 ((gt a0.1 a1).1)).2.2)) ((gt a0.1 a1).2.1)).2.2)).set a1.toNat (0, 0, false)).length c_1), _, boxC b1 203 [.slice A1 ((a0.1.set ((gt a0.1 a1).1).toNat ((gt a0.1 ((gt a0.1 a1).1)).1, (gt a0.1 a1).2.1, (gt a0.1 ((gt a0.1 a1).1)).2.2)).set ((gt a0.1 a1).2.1).toNat ((gt a0.1 a1).1, (gt (a0.1.set ((gt a0.1 a1).1).toNat ((gt a0.1 ((gt a0.1 a1).1)).1, (gt a0.1 a1).2.1, (gt a0.1 ((gt a0.1 a1).1)).2.2)) ((gt a0.1 a1).2.1)).2.1, (gt (a0.1.set ((gt a0.1 a1).1).toNat ((gt a0.1 ((gt a0.1 a1).1)).1, (gt a0.1 a1).2.1, (gt a0.1 ((gt a0.1 a1).1)).2.2)) ((gt a0.1 a1).2.1)).2.2)).length c_1, .int .i64 a0.2]] _ _ := h7
  replace h7 : St w0 F0 [ownC 205 (.pair (.int .i64) (.pair (.int .i64) .bool)) (((a0.1.set ((gt a0.1 a1).1).toNat ((gt a0.1 ((gt a0.1 a1).1)).1, (gt a0.1 a1).2.1, (gt a0.1 ((gt a0.1 a1).1)).2.2)).set ((gt a0.1 a1).2.1).toNat ((gt a0.1 a1).1, (gt (a0.1.set ((gt a0.1 a1).1).toNat ((gt a0.1 ((gt a0.1 a1).1)).1, (gt a0.1 a1).2.1, (gt a0.1 ((gt a0.1 a1).1)).2.2)) ((gt a0.1 a1).2.1)).2.1, (gt (a0.1.set ((gt a0.1 a1).1).toNat ((gt a0.1 ((gt a0.1 a1).1)).1, (gt a0.1 a1).2.1, (gt a0.1 ((gt a0.1 a1).1)).2.2)) ((gt a0.1 a1).2.1)).2.2)).set a1.toNat (0, 0, false)) (.slice A1 (((a0.1.set ((gt a0.1 a1).1).toNat ((gt a0.1 ((gt a0.1 a1).1)).1, (gt a0.1 a1).2.1, (gt a0.1 ((gt a0.1 a1).1)).2.2)).set ((gt a0.1 a1).2.1).toNat ((gt a0.1 a1).1, (gt (a0.1.set ((gt a0.1 a1).1).toNat ((gt a0.1 ((gt a0.1 a1).1)).1, (gt a0.1 a1).2.1, (gt a0.1 ((gt a0.1 a1).1)).2.2)) ((gt a0.1 a1).2.1)).2.1, (gt (a0.1.set ((gt a0.1 a1).1).toNat ((gt a0.1 ((gt a0.1 a1).1)).1, (gt a0.1 a1).2.1, (gt a0.1 ((gt a0.1 a1).1)).2.2)) ((gt a0.1 a1).2.1)).2.2)).set a1.toNat (0, 0, false)).length c_1), boxC b2 205 [.int .i64 ((gt a0.1 a1).1), .int .i64 ((gt a0.1 a1).2.1), .bool ((gt a0.1 a1).2.2)], boxC b1 203 [.slice A1 (((a0.1.set ((gt a0.1 a1).1).toNat ((gt a0.1 ((gt a0.1 a1).1)).1, (gt a0.1 a1).2.1, (gt a0.1 ((gt a0.1 a1).1)).2.2)).set ((gt a0.1 a1).2.1).toNat ((gt a0.1 a1).1, (gt (a0.1.set ((gt a0.1 a1).1).toNat ((gt a0.1 ((gt a0.1 a1).1)).1, (gt a0.1 a1).2.1, (gt a0.1 ((gt a0.1 a1).1)).2.2)) ((gt a0.1 a1).2.1)).2.1, (gt (a0.1.set ((gt a0.1 a1).1).toNat ((gt a0.1 ((gt a0.1 a1).1)).1, (gt a0.1 a1).2.1, (gt a0.1 ((gt a0.1 a1).1)).2.2)) ((gt a0.1 a1).2.1)).2.2)).set a1.toNat (0, 0, false)).length c_1, .int .i64 a0.2]] _ _ := h7.retell (by simp only [List.length_set])
  refine RJ.fin [(0, _)] rfl ?_
  refine J.region ?_
  refine RJ.run ttok 3 rfl ?_
  refine RJ.q rfl rfl (q_load_box ttok 2 h7.wht rfl rfl rfl rfl rfl) ?_
  refine RJ.run ttok 3 rfl ?_
  refine RJ.op rfl rfl (op_store ttok 2 rfl h7 rfl rfl rfl rfl rfl rfl rfl) ?_
  intro _ w6 h8
  replace h8 : St w0 F0 [boxC b1 203 [.slice A1 (((a0.1.set ((gt a0.1 a1).1).toNat ((gt a0.1 ((gt a0.1 a1).1)).1, (gt a0.1 a1).2.1, (gt a0.1 ((gt a0.1 a1).1)).2.2)).set ((gt a0.1 a1).2.1).toNat ((gt a0.1 a1).1, (gt (a0.1.set ((gt a0.1 a1).1).toNat ((gt a0.1 ((gt a0.1 a1).1)).1, (gt a0.1 a1).2.1, (gt a0.1 ((gt a0.1 a1).1)).2.2)) ((gt a0.1 a1).2.1)).2.1, (gt (a0.1.set ((gt a0.1 a1).1).toNat ((gt a0.1 ((gt a0.1 a1).1)).1, (gt a0.1 a1).2.1, (gt a0.1 ((gt a0.1 a1).1)).2.2)) ((gt a0.1 a1).2.1)).2.2)).set a1.toNat (0, 0, false)).length c_1, .int .i64 (w64 (a0.2 - 1))], _, _] _ _ := h8
  refine RJ.fin [] rfl ?_
  obtain rfl := Option.some.inj H
  exact ⟨_, _, _, (results_slots rfl), ⟨_, _, rfl, rfl⟩, h8.only [0, 0] rfl⟩

def Q15.f (a0 : (List (Int × Int × Bool)) × Int) (a1 : Int) : Option (Int × ((List (Int × Int × Bool)) × Int)) := (Q22.f (a0.1, a0.2) a1).bind fun r1 => (if (!decide (r1 = 0)) = true then (some (r1, (a0.1, a0.2))) else (if 0 ≤ a1 ∧ a1 < (a0.1.length : Int) then (if (!((gt a0.1 a1).2.2)) = true then (some (9, (a0.1, a0.2))) else ((Q19.f (a0.1, a0.2) a1).bind fun r2 => (some (0, (r2.1, r2.2))))) else none))
theorem Q15.spec {a0 : (List (Int × Int × Bool)) × Int} {a1 : Int} {b1 : Nat} {A1 : Option Addr} {c_1 : Nat} {r : Int × ((List (Int × Int × Bool)) × Int)} (H : Q15.f a0 a1 = some r) :
    Spec Try.prog 104 [.pointer (some ⟨b1, 0, none⟩), .int .i64 a1] [boxC b1 203 [.slice A1 a0.1.length c_1, .int .i64 a0.2], ownC 205 (.pair (.int .i64) (.pair (.int .i64) .bool)) a0.1 (.slice A1 a0.1.length c_1)] [] (fun v l => ∃ (A_0 : Option Addr) (c_0 : Nat), v = .int .i64 r.1 ∧ l = [boxC b1 203 [.slice A_0 r.2.1.length c_0, .int .i64 r.2.2], ownC 205 (.pair (.int .i64) (.pair (.int .i64) .bool)) r.2.1 (.slice A_0 r.2.1.length c_0)]) := by
  refine Spec.enter Try.func104 rfl (by kernel_rfl) (by kernel_rfl) fun w0 F0 h0 => ?_
  unfold Q15.f at H
  refine J.seq (J.region ?_)
  refine RJ.run ttok 1 rfl ?_
  refine RJ.fin [(0, .pointer (some ⟨b1, 0, none⟩)), (1, .int .i64 a1)] rfl ?_
  refine J.seq (J.seq (J.region ?_))
  refine RJ.run ttok 2 rfl ?_
  obtain ⟨r1, q1, H⟩ := bind_t H
  refine RJ.op rfl rfl (op_call [0, 0] (Q22.spec q1) rfl rfl rfl h0 rfl gnil) ?_
  rintro _ w1 ⟨_, ⟨rfl, rfl⟩, h1⟩
  replace h1 : St w0 F0 [boxC b1 203 [.slice A1 a0.1.length c_1, .int .i64 a0.2], ownC 205 (.pair (.int .i64) (.pair (.int .i64) .bool)) a0.1 (.slice A1 a0.1.length c_1)] _ _ := h1
  refine RJ.run ttok 1 rfl ?_
  refine RJ.fin [(0, _), (1, _), (5, .int .i64 r1)] rfl ?_
  refine J.seq (J.region ?_)
  refine RJ.run ttok 2 rfl ?_
  refine RJ.fin [(0, _), (1, _), (5, _), (10, .bool (!decide (r1 = 0)))] rfl ?_
  refine J.cond rfl (fun c1 => ?_) (fun c1 => ?_)
  · replace H := ite_t c1 H
    refine J.seq (J.region ?_)
    refine RJ.run ttok 2 rfl ?_
    refine RJ.fin [(4, .int .i64 r1)] rfl ?_
    refine J.ret ?_
    obtain rfl := Option.some.inj H
    exact ⟨_, _, _, (results_slots rfl), ⟨_, _, rfl, rfl⟩, h1.only [0, 0] rfl⟩
  replace H := ite_f c1 H
  refine J.skip ?_
  refine J.seq (J.seq (J.region ?_))
  refine RJ.run ttok 3 rfl ?_
  refine RJ.q rfl rfl (q_load_box ttok 0 h1.wht rfl rfl rfl rfl rfl) ?_
  refine RJ.run ttok 1 rfl ?_
  obtain ⟨⟨p1, p2⟩, H⟩ := guard_t H
  have e1 := elem_A h1.wh (Gives.of 1 rfl own_rd) p1 p2
  refine RJ.q rfl rfl (q_index ttok rfl rfl rfl rfl rfl e1 p1 p2) ?_
  refine RJ.run ttok 1 rfl ?_
  refine RJ.q rfl rfl (q_load_elem (f := 2) ttok rfl h1.wht (Gives.of 1 rfl own_rd) p1 p2 rfl rfl rfl rfl rfl) ?_
  refine RJ.run ttok 1 rfl ?_
  refine RJ.fin [(0, _), (1, _), (20, .bool (!((gt a0.1 a1).2.2)))] rfl ?_
  refine J.cond rfl (fun c2 => ?_) (fun c2 => ?_)
  · replace H := ite_t c2 H
    refine J.seq (J.region ?_)
    refine RJ.run ttok 1 rfl ?_
    refine RJ.fin [(4, .int .i64 9)] rfl ?_
    refine J.ret ?_
    obtain rfl := Option.some.inj H
    exact ⟨_, _, _, (results_slots rfl), ⟨_, _, rfl, rfl⟩, h1.only [0, 0] rfl⟩
  replace H := ite_f c2 H
  refine J.skip ?_
  refine J.seq (J.region ?_)
  refine RJ.run ttok 2 rfl ?_
  obtain ⟨r2, q2, H⟩ := bind_t H
  refine RJ.op rfl rfl (op_call [0, 0] (Q19.spec q2) rfl rfl rfl h1 rfl gnil) ?_
  rintro _ w2 ⟨_, ⟨A2, c_2, rfl, rfl⟩, h2⟩
  replace h2 : St w0 F0 [boxC b1 203 [.slice A2 r2.1.length c_2, .int .i64 r2.2], ownC 205 (.pair (.int .i64) (.pair (.int .i64) .bool)) r2.1 (.slice A2 r2.1.length c_2)] _ _ := h2
  refine RJ.fin [] rfl ?_
  refine J.seq (J.region ?_)
  refine RJ.run ttok 1 rfl ?_
  refine RJ.fin [(4, .int .i64 0)] rfl ?_
  refine J.ret ?_
  obtain rfl := Option.some.inj H
  exact ⟨_, _, _, (results_slots rfl), ⟨_, _, rfl, rfl⟩, h2.only [0, 0] rfl⟩

def Q18.f (a0 : (List (Int × Int × Bool)) × Int) : Option (Int) := some a0.2
theorem Q18.spec {a0 : (List (Int × Int × Bool)) × Int} {b1 : Nat} {A1 : Option Addr} {c_1 : Nat} {r : Int} (H : Q18.f a0 = some r) :
    Spec Try.prog 151 [.pointer (some ⟨b1, 0, none⟩)] [boxC b1 203 [.slice A1 a0.1.length c_1, .int .i64 a0.2], ownC 205 (.pair (.int .i64) (.pair (.int .i64) .bool)) a0.1 (.slice A1 a0.1.length c_1)] [] (fun v l => v = .int .i64 r ∧ l = [boxC b1 203 [.slice A1 a0.1.length c_1, .int .i64 a0.2], ownC 205 (.pair (.int .i64) (.pair (.int .i64) .bool)) a0.1 (.slice A1 a0.1.length c_1)]) := by
  refine Spec.enter Try.func151 rfl (by kernel_rfl) (by kernel_rfl) fun w0 F0 h0 => ?_
  unfold Q18.f at H
  refine J.seq (J.region ?_)
  refine RJ.run ttok 1 rfl ?_
  refine RJ.fin [(0, .pointer (some ⟨b1, 0, none⟩))] rfl ?_
  refine J.seq (J.seq (J.region ?_))
  refine RJ.run ttok 2 rfl ?_
  refine RJ.fin [(0, _), (4, .bool false)] rfl ?_
  refine J.condF rfl ?_
  refine J.skip ?_
  refine J.seq (J.region ?_)
  refine RJ.run ttok 3 rfl ?_
  refine RJ.q rfl rfl (q_load_box ttok 0 h0.wht rfl rfl rfl rfl rfl) ?_
  refine RJ.run ttok 1 rfl ?_
  refine RJ.fin [(2, .int .i64 a0.2)] rfl ?_
  refine J.ret ?_
  obtain rfl := Option.some.inj H
  exact ⟨_, _, _, (results_slots rfl), ⟨rfl, rfl⟩, h0.only [0, 0] rfl⟩

def Q17.f (a0 : (List (Int × Int × Bool)) × Int) : Option (Int × Bool) := (Q18.f (a0.1, a0.2)).bind fun r1 => (if (decide (r1 = 0)) = true then (some (0, false)) else ((Q21.f (a0.1, a0.2)).bind fun r2 => (if 0 ≤ r2 ∧ r2 < (a0.1.length : Int) then (some ((gt a0.1 r2).1, true)) else none)))
theorem Q17.spec {a0 : (List (Int × Int × Bool)) × Int} {b1 : Nat} {A1 : Option Addr} {c_1 : Nat} {r : Int × Bool} (H : Q17.f a0 = some r) :
    Spec Try.prog 148 [.pointer (some ⟨b1, 0, none⟩)] [boxC b1 203 [.slice A1 a0.1.length c_1, .int .i64 a0.2], ownC 205 (.pair (.int .i64) (.pair (.int .i64) .bool)) a0.1 (.slice A1 a0.1.length c_1)] [] (fun v l => v = .tuple #[.int .i64 r.1, .bool r.2] ∧ l = [boxC b1 203 [.slice A1 a0.1.length c_1, .int .i64 a0.2], ownC 205 (.pair (.int .i64) (.pair (.int .i64) .bool)) a0.1 (.slice A1 a0.1.length c_1)]) := by
  refine Spec.enter Try.func148 rfl (by kernel_rfl) (by kernel_rfl) fun w0 F0 h0 => ?_
  unfold Q17.f at H
  refine J.seq (J.region ?_)
  refine RJ.run ttok 2 rfl ?_
  refine RJ.fin [(0, .pointer (some ⟨b1, 0, none⟩))] rfl ?_
  refine J.seq (J.seq (J.region ?_))
  refine RJ.run ttok 1 rfl ?_
  obtain ⟨r1, q1, H⟩ := bind_t H
  refine RJ.op rfl rfl (op_call [0, 0] (Q18.spec q1) rfl rfl rfl h0 rfl gnil) ?_
  rintro _ w1 ⟨_, ⟨rfl, rfl⟩, h1⟩
  replace h1 : St w0 F0 [boxC b1 203 [.slice A1 a0.1.length c_1, .int .i64 a0.2], ownC 205 (.pair (.int .i64) (.pair (.int .i64) .bool)) a0.1 (.slice A1 a0.1.length c_1)] _ _ := h1
  refine RJ.run ttok 1 rfl ?_
  refine RJ.fin [(0, _), (6, .bool (decide (r1 = 0)))] rfl ?_
  refine J.cond rfl (fun c1 => ?_) (fun c1 => ?_)
  · replace H := ite_t c1 H
    refine J.seq (J.region ?_)
    refine RJ.run ttok 2 rfl ?_
    refine RJ.fin [(2, .int .i64 0), (3, .bool false)] rfl ?_
    refine J.ret ?_
    obtain rfl := Option.some.inj H
    exact ⟨_, _, _, (results_slots rfl), ⟨rfl, rfl⟩, h1.only [0, 0] rfl⟩
  replace H := ite_f c1 H
  refine J.skip ?_
  refine J.seq ?_
  refine J.heldSt mix h1 ?_
  have h2 := h1.drew
  refine HJ.run ttok rfl [0, 1, 2, 4] rfl ?_
  refine HJ.q (i := 3) rfl rfl rfl rfl rfl rfl (q_load_box ttok 0 (fun w e => e) rfl rfl rfl rfl rfl) ?_
  obtain ⟨r2, q2, H⟩ := bind_t H
  refine HJ.op (i := 5) rfl rfl rfl rfl rfl (op_call [0, 0] (Q21.spec q2) rfl rfl rfl h2 rfl gnil) ?_
  rintro _ w2 ⟨_, ⟨rfl, rfl⟩, h3⟩
  replace h3 : St w0 F0 [_, _] _ _ := h3
  refine ⟨⟨[], h3⟩, ?_⟩
  obtain ⟨⟨p1, p2⟩, H⟩ := guard_t H
  have e1 := elem_A h3.wh (Gives.of 1 rfl own_rd) p1 p2
  refine HJ.q (i := 6) rfl rfl rfl rfl rfl rfl (q_index ttok rfl rfl rfl rfl rfl e1 p1 p2) ?_
  refine HJ.run ttok rfl [7] rfl ?_
  refine HJ.q (i := 8) rfl rfl rfl rfl rfl rfl (q_load_elem (f := 0) ttok rfl (fun w e => e) (Gives.of 1 rfl own_rd) p1 p2 rfl rfl rfl rfl rfl) ?_
  refine HJ.run ttok rfl [9, 10] rfl ?_
  refine HJ.fin [(2, .int .i64 ((gt a0.1 r2).1)), (3, .bool true)] rfl rfl ?_
  refine J.ret ?_
  obtain rfl := Option.some.inj H
  exact ⟨_, _, _, (results_slots rfl), ⟨rfl, rfl⟩, h3.only [0, 0] rfl⟩

def Q30.f (a0 : Int × List (Int) × (Int × Int)) (a1 : Int) (a2 : List (Int)) : Option (Int × (Int × List (Int) × (Int × Int))) := (Q26.f (a0.1, a0.2.1, (a0.2.2.1, a0.2.2.2))).bind fun r1 => (if (decide (r1 = 0)) = true then (some (1, (a0.1, a0.2.1, (a0.2.2.1, a0.2.2.2)))) else ((Q26.f (a0.1, a0.2.1, (a0.2.2.1, a0.2.2.2))).bind fun r2 => (if (decide (r2 ≤ (w64 (a1)))) = true then (some (4, (a0.1, a0.2.1, (a0.2.2.1, a0.2.2.2)))) else (if 0 ≤ (w64 ((w64 (a1)) * a0.1)) ∧ (w64 ((w64 (a1)) * a0.1)) ≤ (w64 ((w64 ((w64 (a1)) * a0.1)) + a0.1)) ∧ (w64 ((w64 ((w64 (a1)) * a0.1)) + a0.1)) ≤ (a0.2.1.length : Int) then (if (!decide ((a2.length : Int) = a0.1)) = true then (some (3, (a0.1, a0.2.1, (a0.2.2.1, a0.2.2.2)))) else (some (0, (a0.1, (patch a0.2.1 (((w64 ((w64 (a1)) * a0.1))).toNat) (((a0.2.1.drop ((w64 ((w64 (a1)) * a0.1))).toNat).take (((w64 ((w64 ((w64 (a1)) * a0.1)) + a0.1))).toNat - ((w64 ((w64 (a1)) * a0.1))).toNat)).length) a2), (a0.2.2.1, (IntKind.u64.wrap (a0.2.2.2 + 1))))))) else none))))
theorem Q30.spec {a0 : Int × List (Int) × (Int × Int)} {a1 : Int} {a2 : List (Int)} {A2 : Option Addr} {c_2 : Nat} {b1 : Nat} {A1 : Option Addr} {c_1 : Nat} {r : Int × (Int × List (Int) × (Int × Int))} (H : Q30.f a0 a1 a2 = some r) :
    Spec Try.prog 16 [.pointer (some ⟨b1, 0, none⟩), .int .u32 a1, .slice A2 a2.length c_2] [boxC b1 51 [.int .i64 a0.1, .slice A1 a0.2.1.length c_1, .int .u64 a0.2.2.1, .int .u64 a0.2.2.2], ownC 5 (.int .u8) a0.2.1 (.slice A1 a0.2.1.length c_1)] [rdC 5 (.int .u8) a2 (.slice A2 a2.length c_2)] (fun v l => ∃ (A_0 : Option Addr) (c_0 : Nat), v = .int .i64 r.1 ∧ l = [boxC b1 51 [.int .i64 r.2.1, .slice A_0 r.2.2.1.length c_0, .int .u64 r.2.2.2.1, .int .u64 r.2.2.2.2], ownC 5 (.int .u8) r.2.2.1 (.slice A_0 r.2.2.1.length c_0)]) := by
  refine Spec.enter Try.func16 rfl (by kernel_rfl) (by kernel_rfl) fun w0 F0 h0 => ?_
  unfold Q30.f at H
  refine J.seq (J.region ?_)
  refine RJ.run ttok 1 rfl ?_
  refine RJ.fin [(0, .pointer (some ⟨b1, 0, none⟩)), (1, .int .u32 a1), (2, .slice A2 a2.length c_2)] rfl ?_
  refine J.seq (J.region ?_)
  refine RJ.run ttok 2 rfl ?_
  refine RJ.inline rfl rfl rfl rfl rfl Try.func69 rfl (by kernel_rfl) (by kernel_rfl) ?_
  refine J.seq (J.region ?_)
  refine RJ.run ttok 2 rfl ?_
  refine RJ.fin [(0, _), (1, _)] rfl ?_
  refine J.seq (J.block (J.seq (J.region ?_)))
  refine RJ.run ttok 1 rfl ?_
  obtain ⟨r1, q1, H⟩ := bind_t H
  refine RJ.op rfl rfl (op_call [0, 0] (Q26.spec q1) rfl rfl rfl h0 rfl gnil) ?_
  rintro _ w1 ⟨_, ⟨rfl, rfl⟩, h1⟩
  replace h1 : St w0 F0 [boxC b1 51 [.int .i64 a0.1, .slice A1 a0.2.1.length c_1, .int .u64 a0.2.2.1, .int .u64 a0.2.2.2], ownC 5 (.int .u8) a0.2.1 (.slice A1 a0.2.1.length c_1)] _ _ := h1
  refine RJ.run ttok 2 rfl ?_
  refine RJ.fin [(0, _), (1, _), (7, .bool (decide (r1 = 0)))] rfl ?_
  refine J.cond rfl (fun c1 => ?_) (fun c1 => ?_)
  · replace H := ite_t c1 H
    refine J.seq (J.region ?_)
    refine RJ.run ttok 2 rfl ?_
    refine RJ.fin [(4, .slice none ([] : List (Int)).length 0), (5, .int .i64 1)] rfl ?_
    refine J.ret ?_
    refine ⟨_, results_slots rfl, ?_⟩
    refine RJ.run ttok 5 rfl ?_
    refine RJ.fin [(0, .pointer (some ⟨b1, 0, none⟩)), (2, .slice A2 a2.length c_2), (7, .slice none ([] : List (Int)).length 0), (8, .int .i64 1)] rfl ?_
    refine J.seq (J.block (J.seq (J.region ?_)))
    refine RJ.run ttok 3 rfl ?_
    refine RJ.fin [(0, _), (2, _), (7, _), (8, _), (15, .bool true)] rfl ?_
    refine J.condT rfl ?_
    refine J.seq (J.region ?_)
    refine RJ.run ttok 2 rfl ?_
    refine RJ.fin [(6, .int .i64 1)] rfl ?_
    refine J.ret ?_
    obtain rfl := Option.some.inj H
    exact ⟨_, _, _, (results_slots rfl), ⟨_, _, rfl, rfl⟩, h1.only [0, 0] rfl⟩
  replace H := ite_f c1 H
  refine J.seq (J.region ?_)
  refine RJ.run ttok 3 rfl ?_
  obtain ⟨r2, q2, H⟩ := bind_t H
  refine RJ.op rfl rfl (op_call [0, 0] (Q26.spec q2) rfl rfl rfl h1 rfl gnil) ?_
  rintro _ w2 ⟨_, ⟨rfl, rfl⟩, h2⟩
  replace h2 : St w0 F0 [_, _] _ _ := h2
  refine RJ.run ttok 2 rfl ?_
  refine RJ.fin [(0, _), (1, _), (11, .bool (decide (r2 ≤ (w64 (a1)))))] rfl ?_
  refine J.cond rfl (fun c2 => ?_) (fun c2 => ?_)
  · replace H := ite_t c2 H
    refine J.seq (J.region ?_)
    refine RJ.run ttok 2 rfl ?_
    refine RJ.fin [(4, .slice none ([] : List (Int)).length 0), (5, .int .i64 4)] rfl ?_
    refine J.ret ?_
    refine ⟨_, results_slots rfl, ?_⟩
    refine RJ.run ttok 5 rfl ?_
    refine RJ.fin [(0, .pointer (some ⟨b1, 0, none⟩)), (2, .slice A2 a2.length c_2), (7, .slice none ([] : List (Int)).length 0), (8, .int .i64 4)] rfl ?_
    refine J.seq (J.block (J.seq (J.region ?_)))
    refine RJ.run ttok 3 rfl ?_
    refine RJ.fin [(0, _), (2, _), (7, _), (8, _), (15, .bool true)] rfl ?_
    refine J.condT rfl ?_
    refine J.seq (J.region ?_)
    refine RJ.run ttok 2 rfl ?_
    refine RJ.fin [(6, .int .i64 4)] rfl ?_
    refine J.ret ?_
    obtain rfl := Option.some.inj H
    exact ⟨_, _, _, (results_slots rfl), ⟨_, _, rfl, rfl⟩, h2.only [0, 0] rfl⟩
  replace H := ite_f c2 H
  refine J.skip ?_
  refine J.seq (J.region ?_)
  refine RJ.run ttok 5 rfl ?_
  refine RJ.q rfl rfl (q_load_box ttok 0 h2.wht rfl rfl rfl rfl rfl) ?_
  refine RJ.run ttok 2 rfl ?_
  refine RJ.fin [(0, _), (6, .int .i64 (w64 ((w64 (a1)) * a0.1)))] rfl ?_
  refine J.seq ?_
  refine J.heldSt mix h2 ?_
  have h3 := h2.drew
  refine HJ.run ttok rfl [0, 1, 2, 4, 5, 6, 7, 8] rfl ?_
  refine HJ.q (i := 3) rfl rfl rfl rfl rfl rfl (q_load_box ttok 0 (fun w e => e) rfl rfl rfl rfl rfl) ?_
  refine HJ.q (i := 9) rfl rfl rfl rfl rfl rfl (q_load_box ttok 0 (fun w e => e) rfl rfl rfl rfl rfl) ?_
  refine HJ.run ttok rfl [10] rfl ?_
  obtain ⟨⟨p1, p2, p3⟩, H⟩ := guard_t H
  have e1 := h3.cap (Gives.of 1 rfl own_rd)
  refine HJ.q (i := 11) rfl rfl rfl rfl rfl rfl (q_cut (l := (w64 ((w64 (a1)) * a0.1))) (h := (w64 ((w64 ((w64 (a1)) * a0.1)) + a0.1))) (sub := ((a0.2.1.drop ((w64 ((w64 (a1)) * a0.1))).toNat).take (((w64 ((w64 ((w64 (a1)) * a0.1)) + a0.1))).toNat - ((w64 ((w64 (a1)) * a0.1))).toNat))) ttok rfl rfl rfl rfl e1 ⟨_, rfl⟩ ⟨_, rfl⟩ p1 p2 p3 rfl) ?_
  refine HJ.run ttok rfl [12, 13] rfl ?_
  refine HJ.fin [(4, .slice (cutA A1 c_1 ((w64 ((w64 (a1)) * a0.1))).toNat 1) ((a0.2.1.drop ((w64 ((w64 (a1)) * a0.1))).toNat).take (((w64 ((w64 ((w64 (a1)) * a0.1)) + a0.1))).toNat - ((w64 ((w64 (a1)) * a0.1))).toNat)).length (c_1 - ((w64 ((w64 (a1)) * a0.1))).toNat)), (5, .int .i64 0)] rfl rfl ?_
  refine J.ret ?_
  refine ⟨_, results_slots rfl, ?_⟩
  refine RJ.run ttok 5 rfl ?_
  refine RJ.fin [(0, .pointer (some ⟨b1, 0, none⟩)), (2, .slice A2 a2.length c_2), (7, .slice (cutA A1 c_1 ((w64 ((w64 (a1)) * a0.1))).toNat 1) ((a0.2.1.drop ((w64 ((w64 (a1)) * a0.1))).toNat).take (((w64 ((w64 ((w64 (a1)) * a0.1)) + a0.1))).toNat - ((w64 ((w64 (a1)) * a0.1))).toNat)).length (c_1 - ((w64 ((w64 (a1)) * a0.1))).toNat)), (8, .int .i64 0)] rfl ?_
  refine J.seq (J.block (J.seq (J.region ?_)))
  refine RJ.run ttok 3 rfl ?_
  refine RJ.fin [(0, _), (2, _), (7, _), (8, _), (15, .bool false)] rfl ?_
  refine J.condF rfl ?_
  refine J.seq (J.region ?_)
  refine RJ.run ttok 5 rfl ?_
  refine RJ.q rfl rfl (q_load_box ttok 0 h3.wht rfl rfl rfl rfl rfl) ?_
  refine RJ.run ttok 2 rfl ?_
  refine RJ.fin [(0, _), (2, _), (7, _), (19, .bool (!decide ((a2.length : Int) = a0.1)))] rfl ?_
  refine J.cond rfl (fun c3 => ?_) (fun c3 => ?_)
  · replace H := ite_t c3 H
    refine J.seq (J.region ?_)
    refine RJ.run ttok 1 rfl ?_
    refine RJ.fin [(6, .int .i64 3)] rfl ?_
    refine J.ret ?_
    obtain rfl := Option.some.inj H
    exact ⟨_, _, _, (results_slots rfl), ⟨_, _, rfl, rfl⟩, h3.only [0, 0] rfl⟩
  replace H := ite_f c3 H
  refine J.skip ?_
  refine J.seq (J.region ?_)
  refine RJ.run ttok 2 rfl ?_
  have e2 : (((w64 ((w64 (a1)) * a0.1))).toNat) + ((a0.2.1.drop ((w64 ((w64 (a1)) * a0.1))).toNat).take (((w64 ((w64 ((w64 (a1)) * a0.1)) + a0.1))).toNat - ((w64 ((w64 (a1)) * a0.1))).toNat)).length ≤ a0.2.1.length := by first | omega | (simp only [List.length_take, List.length_drop]; omega)
  refine RJ.op rfl rfl (op_copy_own ttok (ty := (.int .u8)) (xs := a0.2.1) (ys := a2) rfl 1 rfl h3 rfl (Gives.self 1 rfl) rfl rfl rfl rfl rfl rfl e2) ?_
  rintro _ w3 ⟨rfl, h4⟩
  replace h4 : St w0 F0 [ownC 5 (.int .u8) (patch a0.2.1 (((w64 ((w64 (a1)) * a0.1))).toNat) (((a0.2.1.drop ((w64 ((w64 (a1)) * a0.1))).toNat).take (((w64 ((w64 ((w64 (a1)) * a0.1)) + a0.1))).toNat - ((w64 ((w64 (a1)) * a0.1))).toNat)).length) a2) (.slice A1 (patch a0.2.1 (((w64 ((w64 (a1)) * a0.1))).toNat) (((a0.2.1.drop ((w64 ((w64 (a1)) * a0.1))).toNat).take (((w64 ((w64 ((w64 (a1)) * a0.1)) + a0.1))).toNat - ((w64 ((w64 (a1)) * a0.1))).toNat)).length) a2).length c_1), _] _ _ := h4
  replace h4 : St w0 F0 [ownC 5 (.int .u8) (patch a0.2.1 (((w64 ((w64 (a1)) * a0.1))).toNat) (((a0.2.1.drop ((w64 ((w64 (a1)) * a0.1))).toNat).take (((w64 ((w64 ((w64 (a1)) * a0.1)) + a0.1))).toNat - ((w64 ((w64 (a1)) * a0.1))).toNat)).length) a2) (.slice A1 (patch a0.2.1 (((w64 ((w64 (a1)) * a0.1))).toNat) (((a0.2.1.drop ((w64 ((w64 (a1)) * a0.1))).toNat).take (((w64 ((w64 ((w64 (a1)) * a0.1)) + a0.1))).toNat - ((w64 ((w64 (a1)) * a0.1))).toNat)).length) a2).length c_1), boxC b1 51 [.int .i64 a0.1, .slice A1 (patch a0.2.1 (((w64 ((w64 (a1)) * a0.1))).toNat) (((a0.2.1.drop ((w64 ((w64 (a1)) * a0.1))).toNat).take (((w64 ((w64 ((w64 (a1)) * a0.1)) + a0.1))).toNat - ((w64 ((w64 (a1)) * a0.1))).toNat)).length) a2).length c_1, .int .u64 a0.2.2.1, .int .u64 a0.2.2.2]] _ _ := h4.retell (by simp only [patch_length e2])
  refine RJ.fin [(0, _)] rfl ?_
  refine J.seq (J.region ?_)
  refine RJ.run ttok 4 rfl ?_
  refine RJ.q rfl rfl (q_load_box ttok 1 h4.wht rfl rfl rfl rfl rfl) ?_
  refine RJ.run ttok 4 rfl ?_
  refine RJ.op rfl rfl (op_store ttok 1 rfl h4 rfl rfl rfl rfl rfl rfl rfl) ?_
  intro _ w4 h5
  replace h5 : St w0 F0 [boxC b1 51 [.int .i64 a0.1, .slice A1 (patch a0.2.1 (((w64 ((w64 (a1)) * a0.1))).toNat) (((a0.2.1.drop ((w64 ((w64 (a1)) * a0.1))).toNat).take (((w64 ((w64 ((w64 (a1)) * a0.1)) + a0.1))).toNat - ((w64 ((w64 (a1)) * a0.1))).toNat)).length) a2).length c_1, .int .u64 a0.2.2.1, .int .u64 (IntKind.u64.wrap (a0.2.2.2 + 1))], _] _ _ := h5
  refine RJ.fin [] rfl ?_
  refine J.seq (J.region ?_)
  refine RJ.run ttok 1 rfl ?_
  refine RJ.fin [(6, .int .i64 0)] rfl ?_
  refine J.ret ?_
  obtain rfl := Option.some.inj H
  exact ⟨_, _, _, (results_slots rfl), ⟨_, _, rfl, rfl⟩, h5.only [0, 0] rfl⟩

def Q11.f (a0 : (Int × List (Int) × (Int × Int)) × (List (Int × List (Int) × Bool × Int)) × (List (Int × Int)) × List (Int) × ((List (Int × Int × Bool)) × Int)) (a1 : Int) : Option (((Int × List (Int) × (Int × Int)) × (List (Int × List (Int) × Bool × Int)) × (List (Int × Int)) × List (Int) × ((List (Int × Int × Bool)) × Int))) := if 0 ≤ a1 ∧ a1 < (a0.2.1.length : Int) then ((Q15.f (a0.2.2.2.2.1, a0.2.2.2.2.2) a1).bind fun r1 => (if (a0.2.2.2.1.length + ([a1] : List (Int)).length) * 8 ≤ 140737488355328 then (some ((a0.1.1, a0.1.2.1, (a0.1.2.2.1, a0.1.2.2.2)), (a0.2.1.set a1.toNat (0, ([] : List (Int)), false, 0)), (mdel ((gt a0.2.1 a1).1) a0.2.2.1), (a0.2.2.2.1 ++ ([a1] : List (Int))), (r1.2.1, r1.2.2))) else none)) else none
theorem Q11.spec {a0 : (Int × List (Int) × (Int × Int)) × (List (Int × List (Int) × Bool × Int)) × (List (Int × Int)) × List (Int) × ((List (Int × Int × Bool)) × Int)} {a1 : Int} {b1 : Nat} {b2 : Nat} {b3 : Nat} {b4 : Nat} {A1 : Option Addr} {c_1 : Nat} {A2 : Option Addr} {c_2 : Nat} {A3 : Option Addr} {c_3 : Nat} {A4 : Option Addr} {c_4 : Nat} {r : ((Int × List (Int) × (Int × Int)) × (List (Int × List (Int) × Bool × Int)) × (List (Int × Int)) × List (Int) × ((List (Int × Int × Bool)) × Int))} (H : Q11.f a0 a1 = some r) :
    Spec Try.prog 108 [.pointer (some ⟨b1, 0, none⟩), .int .i64 a1] [boxC b1 113 [.pointer (some ⟨b2, 0, none⟩), .slice A2 a0.2.1.length c_2, .map (some b3), .slice A3 a0.2.2.2.1.length c_3, .pointer (some ⟨b4, 0, none⟩)], boxC b2 51 [.int .i64 a0.1.1, .slice A1 a0.1.2.1.length c_1, .int .u64 a0.1.2.2.1, .int .u64 a0.1.2.2.2], ownC 5 (.int .u8) a0.1.2.1 (.slice A1 a0.1.2.1.length c_1), ownC 162 (.pair (.int .u32) (.pair (.slice 5 (.int .u8)) (.pair .bool (.int .i64)))) a0.2.1 (.slice A2 a0.2.1.length c_2), mapC .u32 (Value.int .i64) b3 a0.2.2.1, ownC 3 (.int .i64) a0.2.2.2.1 (.slice A3 a0.2.2.2.1.length c_3), boxC b4 203 [.slice A4 a0.2.2.2.2.1.length c_4, .int .i64 a0.2.2.2.2.2], ownC 205 (.pair (.int .i64) (.pair (.int .i64) .bool)) a0.2.2.2.2.1 (.slice A4 a0.2.2.2.2.1.length c_4)] [] (fun v l => ∃ (A_0 : Option Addr) (c_0 : Nat) (A_1 : Option Addr) (c_1 : Nat) (A_2 : Option Addr) (c_2 : Nat) (A_3 : Option Addr) (c_3 : Nat), v = .tuple #[] ∧ l = [boxC b1 113 [.pointer (some ⟨b2, 0, none⟩), .slice A_1 r.2.1.length c_1, .map (some b3), .slice A_2 r.2.2.2.1.length c_2, .pointer (some ⟨b4, 0, none⟩)], boxC b2 51 [.int .i64 r.1.1, .slice A_0 r.1.2.1.length c_0, .int .u64 r.1.2.2.1, .int .u64 r.1.2.2.2], ownC 5 (.int .u8) r.1.2.1 (.slice A_0 r.1.2.1.length c_0), ownC 162 (.pair (.int .u32) (.pair (.slice 5 (.int .u8)) (.pair .bool (.int .i64)))) r.2.1 (.slice A_1 r.2.1.length c_1), mapC .u32 (Value.int .i64) b3 r.2.2.1, ownC 3 (.int .i64) r.2.2.2.1 (.slice A_2 r.2.2.2.1.length c_2), boxC b4 203 [.slice A_3 r.2.2.2.2.1.length c_3, .int .i64 r.2.2.2.2.2], ownC 205 (.pair (.int .i64) (.pair (.int .i64) .bool)) r.2.2.2.2.1 (.slice A_3 r.2.2.2.2.1.length c_3)]) := by
  refine Spec.enter Try.func108 rfl (by kernel_rfl) (by kernel_rfl) fun w0 F0 h0 => ?_
  unfold Q11.f at H
  refine J.seq ?_
  refine J.heldSt mix (h0.only [0, 0, 0, 0, 1, 1, 1] rfl) ?_
  have h1 := h0.drew
  refine HJ.run ttok rfl [0, 1, 2, 4, 5, 6, 8] rfl ?_
  refine HJ.q (i := 3) rfl rfl rfl rfl rfl rfl (q_load_box ttok 0 (fun w e => e) rfl rfl rfl rfl rfl) ?_
  refine HJ.q (i := 7) rfl rfl rfl rfl rfl rfl (q_load_box ttok 0 (fun w e => e) rfl rfl rfl rfl rfl) ?_
  obtain ⟨⟨p1, p2⟩, H⟩ := guard_t H
  have e1 := elem_A h1.wh (Gives.of 3 rfl own_rd) p1 p2
  refine HJ.q (i := 9) rfl rfl rfl rfl rfl rfl (q_index ttok rfl rfl rfl rfl rfl e1 p1 p2) ?_
  refine HJ.run ttok rfl [10] rfl ?_
  refine HJ.q (i := 11) rfl rfl rfl rfl rfl rfl (q_load_deep (f := 0) ttok (fun w e => e) (Gives.of 3 rfl own_rd) p1 p2 rfl rfl rfl rfl rfl rfl) ?_
  refine HJ.op (i := 12) rfl rfl rfl rfl rfl (op_mapdel ttok (ix := ((gt a0.2.1 a1).1)) 4 rfl h1 rfl rfl rfl rfl rfl rfl rfl) ?_
  intro _ w1 h2
  replace h2 : St w0 F0 [mapC .u32 (Value.int .i64) b3 (mdel ((gt a0.2.1 a1).1) a0.2.2.1), boxC b1 113 [.pointer (some ⟨b2, 0, none⟩), .slice A2 a0.2.1.length c_2, .map (some b3), .slice A3 a0.2.2.2.1.length c_3, .pointer (some ⟨b4, 0, none⟩)], boxC b2 51 [.int .i64 a0.1.1, .slice A1 a0.1.2.1.length c_1, .int .u64 a0.1.2.2.1, .int .u64 a0.1.2.2.2], ownC 5 (.int .u8) a0.1.2.1 (.slice A1 a0.1.2.1.length c_1), ownC 162 (.pair (.int .u32) (.pair (.slice 5 (.int .u8)) (.pair .bool (.int .i64)))) a0.2.1 (.slice A2 a0.2.1.length c_2), ownC 3 (.int .i64) a0.2.2.2.1 (.slice A3 a0.2.2.2.1.length c_3), boxC b4 203 [.slice A4 a0.2.2.2.2.1.length c_4, .int .i64 a0.2.2.2.2.2], ownC 205 (.pair (.int .i64) (.pair (.int .i64) .bool)) a0.2.2.2.2.1 (.slice A4 a0.2.2.2.2.1.length c_4)] _ _ := h2
  refine ⟨⟨[_], h2⟩, ?_⟩
  refine HJ.fin [(0, .pointer (some ⟨b1, 0, none⟩)), (1, .int .i64 a1)] rfl rfl ?_
  refine J.seq (J.region ?_)
  refine RJ.run ttok 3 rfl ?_
  refine RJ.q rfl rfl (q_load_box ttok 1 h2.wht rfl rfl rfl rfl rfl) ?_
  refine RJ.run ttok 1 rfl ?_
  obtain ⟨r1, q1, H⟩ := bind_t H
  refine RJ.op rfl rfl (op_call [6, 6] (Q15.spec q1) rfl rfl rfl h2 rfl gnil) ?_
  rintro _ w2 ⟨_, ⟨A5, c_5, rfl, rfl⟩, h3⟩
  replace h3 : St w0 F0 [boxC b4 203 [.slice A5 r1.2.1.length c_5, .int .i64 r1.2.2], ownC 205 (.pair (.int .i64) (.pair (.int .i64) .bool)) r1.2.1 (.slice A5 r1.2.1.length c_5), _, _, _, _, _, _] _ _ := h3
  refine RJ.fin [(0, _), (1, _)] rfl ?_
  refine J.seq (J.region ?_)
  refine RJ.run ttok 3 rfl ?_
  refine RJ.q rfl rfl (q_load_box ttok 3 h3.wht rfl rfl rfl rfl rfl) ?_
  refine RJ.run ttok 2 rfl ?_
  refine RJ.q rfl rfl (q_index ttok rfl rfl rfl rfl rfl e1 p1 p2) ?_
  have h4 := h3.addNil 5 (.int .u8)
  have h5 := (h4.only [7, 0, 0, 0, 0, 0, 0, 0, 0] rfl).both
  refine RJ.op rfl rfl (op_store_eat (ty := (.pair (.int .u32) (.pair (.slice 5 (.int .u8)) (.pair .bool (.int .i64))))) (f := 0) (ix := a1) ttok (0, ([] : List (Int)), false, 0) rfl h5 rfl p1 p2 rfl rfl rfl rfl rfl rfl hnew_fr) ?_
  intro _ w3 h6
  replace h6 : St w0 F0 [ownC 162 (.pair (.int .u32) (.pair (.slice 5 (.int .u8)) (.pair .bool (.int .i64)))) (a0.2.1.set a1.toNat (0, ([] : List (Int)), false, 0)) (.slice A2 (a0.2.1.set a1.toNat (0, ([] : List (Int)), false, 0)).length c_2), _, _, _, _, _, _, _] _ _ := h6
  replace h6 : St w0 F0 [ownC 162 (.pair (.int .u32) (.pair (.slice 5 (.int .u8)) (.pair .bool (.int .i64)))) (a0.2.1.set a1.toNat (0, ([] : List (Int)), false, 0)) (.slice A2 (a0.2.1.set a1.toNat (0, ([] : List (Int)), false, 0)).length c_2), boxC b4 203 [.slice A5 r1.2.1.length c_5, .int .i64 r1.2.2], ownC 205 (.pair (.int .i64) (.pair (.int .i64) .bool)) r1.2.1 (.slice A5 r1.2.1.length c_5), mapC .u32 (Value.int .i64) b3 (mdel ((gt a0.2.1 a1).1) a0.2.2.1), boxC b1 113 [.pointer (some ⟨b2, 0, none⟩), .slice A2 (a0.2.1.set a1.toNat (0, ([] : List (Int)), false, 0)).length c_2, .map (some b3), .slice A3 a0.2.2.2.1.length c_3, .pointer (some ⟨b4, 0, none⟩)], boxC b2 51 [.int .i64 a0.1.1, .slice A1 a0.1.2.1.length c_1, .int .u64 a0.1.2.2.1, .int .u64 a0.1.2.2.2], ownC 5 (.int .u8) a0.1.2.1 (.slice A1 a0.1.2.1.length c_1), ownC 3 (.int .i64) a0.2.2.2.1 (.slice A3 a0.2.2.2.1.length c_3)] _ _ := h6.retell (by simp only [List.length_set])
  refine RJ.fin [(0, _), (1, _)] rfl ?_
  refine J.region ?_
  refine RJ.run ttok 4 rfl ?_
  refine RJ.q rfl rfl (q_load_box ttok 4 h6.wht rfl rfl rfl rfl rfl) ?_
  refine RJ.run ttok 1 rfl ?_
  refine RJ.op rfl rfl (op_lit ttok (.int .i64) rfl ([a1] : List (Int)) rfl h6 rfl rfl (by decide) rfl rfl rfl rfl rfl rfl rfl) ?_
  rintro _ w4 ⟨b5, rfl, h7⟩
  replace h7 : St w0 F0 [ownC 3 (.int .i64) ([a1] : List (Int)) (.slice (some ⟨b5, 0, none⟩) ([a1] : List (Int)).length 1), _, _, _, _, boxC b1 113 [.pointer (some ⟨b2, 0, none⟩), .slice A2 (a0.2.1.set a1.toNat (0, ([] : List (Int)), false, 0)).length c_2, .map (some b3), .slice A3 a0.2.2.2.1.length c_3, .pointer (some ⟨b4, 0, none⟩)], _, _, _] _ _ := h7
  obtain ⟨p3, H⟩ := guard_t H
  refine RJ.op rfl rfl (op_append ttok rfl 8 rfl h7 rfl (Gives.of 0 rfl own_rd) rfl rfl rfl rfl rfl rfl (by decide) (by decide) p3) ?_
  rintro _ w5 ⟨A6, c_6, rfl, h8⟩
  replace h8 : St w0 F0 [ownC 3 (.int .i64) (a0.2.2.2.1 ++ ([a1] : List (Int))) (.slice A6 (a0.2.2.2.1 ++ ([a1] : List (Int))).length c_6), _, _, _, _, _, _, _, _] _ _ := h8
  refine RJ.run ttok 2 rfl ?_
  refine RJ.op rfl rfl (op_store ttok 6 rfl h8 rfl rfl rfl rfl rfl rfl rfl) ?_
  intro _ w6 h9
  replace h9 : St w0 F0 [boxC b1 113 [.pointer (some ⟨b2, 0, none⟩), .slice A2 (a0.2.1.set a1.toNat (0, ([] : List (Int)), false, 0)).length c_2, .map (some b3), .slice A6 (a0.2.2.2.1 ++ ([a1] : List (Int))).length c_6, .pointer (some ⟨b4, 0, none⟩)], _, _, _, _, _, _, _, _] _ _ := h9
  refine RJ.fin [] rfl ?_
  obtain rfl := Option.some.inj H
  exact ⟨_, _, _, (results_slots rfl), ⟨_, _, _, _, _, _, _, _, rfl, rfl⟩, h9.only [0, 6, 6, 2, 4, 0, 1, 1] rfl⟩

def Q13.f (a0 : (Int × List (Int) × (Int × Int)) × (List (Int × List (Int) × Bool × Int)) × (List (Int × Int)) × List (Int) × ((List (Int × Int × Bool)) × Int)) : Option (Int × Bool × ((Int × List (Int) × (Int × Int)) × (List (Int × List (Int) × Bool × Int)) × (List (Int × Int)) × List (Int) × ((List (Int × Int × Bool)) × Int))) := if (decide ((a0.2.2.2.1.length : Int) = 0)) = true then ((Q17.f (a0.2.2.2.2.1, a0.2.2.2.2.2)).bind fun r1 => (if (!r1.2) = true then (some (0, false, ((a0.1.1, a0.1.2.1, (a0.1.2.2.1, a0.1.2.2.2)), a0.2.1, a0.2.2.1, a0.2.2.2.1, (a0.2.2.2.2.1, a0.2.2.2.2.2)))) else (if 0 ≤ r1.1 ∧ r1.1 < (a0.2.1.length : Int) then (if (gt a0.2.1 r1.1).2.2.1 = true then ((Q30.f (a0.1.1, a0.1.2.1, (a0.1.2.2.1, a0.1.2.2.2)) ((gt a0.2.1 r1.1).1) ((gt a0.2.1 r1.1).2.1)).bind fun r2 => ((Q11.f ((r2.2.1, r2.2.2.1, (r2.2.2.2.1, r2.2.2.2.2)), (a0.2.1.set r1.1.toNat ((gt a0.2.1 r1.1).1, (gt a0.2.1 r1.1).2.1, false, (gt a0.2.1 r1.1).2.2.2)), a0.2.2.1, a0.2.2.2.1, (a0.2.2.2.2.1, a0.2.2.2.2.2)) r1.1).bind fun r3 => (if 0 ≤ (w64 ((r3.2.2.2.1.length : Int) - 1)) ∧ (w64 ((r3.2.2.2.1.length : Int) - 1)) < (r3.2.2.2.1.length : Int) then (if (0 : Int) ≤ (w64 ((r3.2.2.2.1.length : Int) - 1)) ∧ (w64 ((r3.2.2.2.1.length : Int) - 1)) ≤ (r3.2.2.2.1.length : Int) then (some ((gt r3.2.2.2.1 (w64 ((r3.2.2.2.1.length : Int) - 1))), true, ((r3.1.1, r3.1.2.1, (r3.1.2.2.1, r3.1.2.2.2)), r3.2.1, r3.2.2.1, (r3.2.2.2.1.take ((w64 ((r3.2.2.2.1.length : Int) - 1))).toNat), (r3.2.2.2.2.1, r3.2.2.2.2.2)))) else none) else none))) else ((Q11.f ((a0.1.1, a0.1.2.1, (a0.1.2.2.1, a0.1.2.2.2)), a0.2.1, a0.2.2.1, a0.2.2.2.1, (a0.2.2.2.2.1, a0.2.2.2.2.2)) r1.1).bind fun r4 => (if 0 ≤ (w64 ((r4.2.2.2.1.length : Int) - 1)) ∧ (w64 ((r4.2.2.2.1.length : Int) - 1)) < (r4.2.2.2.1.length : Int) then (if (0 : Int) ≤ (w64 ((r4.2.2.2.1.length : Int) - 1)) ∧ (w64 ((r4.2.2.2.1.length : Int) - 1)) ≤ (r4.2.2.2.1.length : Int) then (some ((gt r4.2.2.2.1 (w64 ((r4.2.2.2.1.length : Int) - 1))), true, ((r4.1.1, r4.1.2.1, (r4.1.2.2.1, r4.1.2.2.2)), r4.2.1, r4.2.2.1, (r4.2.2.2.1.take ((w64 ((r4.2.2.2.1.length : Int) - 1))).toNat), (r4.2.2.2.2.1, r4.2.2.2.2.2)))) else none) else none))) else none))) else (if 0 ≤ (w64 ((a0.2.2.2.1.length : Int) - 1)) ∧ (w64 ((a0.2.2.2.1.length : Int) - 1)) < (a0.2.2.2.1.length : Int) then (if (0 : Int) ≤ (w64 ((a0.2.2.2.1.length : Int) - 1)) ∧ (w64 ((a0.2.2.2.1.length : Int) - 1)) ≤ (a0.2.2.2.1.length : Int) then (some ((gt a0.2.2.2.1 (w64 ((a0.2.2.2.1.length : Int) - 1))), true, ((a0.1.1, a0.1.2.1, (a0.1.2.2.1, a0.1.2.2.2)), a0.2.1, a0.2.2.1, (a0.2.2.2.1.take ((w64 ((a0.2.2.2.1.length : Int) - 1))).toNat), (a0.2.2.2.2.1, a0.2.2.2.2.2)))) else none) else none)
theorem Q13.spec {a0 : (Int × List (Int) × (Int × Int)) × (List (Int × List (Int) × Bool × Int)) × (List (Int × Int)) × List (Int) × ((List (Int × Int × Bool)) × Int)} {b1 : Nat} {b2 : Nat} {b3 : Nat} {b4 : Nat} {A1 : Option Addr} {c_1 : Nat} {A2 : Option Addr} {c_2 : Nat} {A3 : Option Addr} {c_3 : Nat} {A4 : Option Addr} {c_4 : Nat} {r : Int × Bool × ((Int × List (Int) × (Int × Int)) × (List (Int × List (Int) × Bool × Int)) × (List (Int × Int)) × List (Int) × ((List (Int × Int × Bool)) × Int))} (H : Q13.f a0 = some r) :
    Spec Try.prog 105 [.pointer (some ⟨b1, 0, none⟩)] [boxC b1 113 [.pointer (some ⟨b2, 0, none⟩), .slice A2 a0.2.1.length c_2, .map (some b3), .slice A3 a0.2.2.2.1.length c_3, .pointer (some ⟨b4, 0, none⟩)], boxC b2 51 [.int .i64 a0.1.1, .slice A1 a0.1.2.1.length c_1, .int .u64 a0.1.2.2.1, .int .u64 a0.1.2.2.2], ownC 5 (.int .u8) a0.1.2.1 (.slice A1 a0.1.2.1.length c_1), ownC 162 (.pair (.int .u32) (.pair (.slice 5 (.int .u8)) (.pair .bool (.int .i64)))) a0.2.1 (.slice A2 a0.2.1.length c_2), mapC .u32 (Value.int .i64) b3 a0.2.2.1, ownC 3 (.int .i64) a0.2.2.2.1 (.slice A3 a0.2.2.2.1.length c_3), boxC b4 203 [.slice A4 a0.2.2.2.2.1.length c_4, .int .i64 a0.2.2.2.2.2], ownC 205 (.pair (.int .i64) (.pair (.int .i64) .bool)) a0.2.2.2.2.1 (.slice A4 a0.2.2.2.2.1.length c_4)] [] (fun v l => ∃ (A_0 : Option Addr) (c_0 : Nat) (A_1 : Option Addr) (c_1 : Nat) (A_2 : Option Addr) (c_2 : Nat) (A_3 : Option Addr) (c_3 : Nat), v = .tuple #[.int .i64 r.1, .bool r.2.1] ∧ l = [boxC b1 113 [.pointer (some ⟨b2, 0, none⟩), .slice A_1 r.2.2.2.1.length c_1, .map (some b3), .slice A_2 r.2.2.2.2.2.1.length c_2, .pointer (some ⟨b4, 0, none⟩)], boxC b2 51 [.int .i64 r.2.2.1.1, .slice A_0 r.2.2.1.2.1.length c_0, .int .u64 r.2.2.1.2.2.1, .int .u64 r.2.2.1.2.2.2], ownC 5 (.int .u8) r.2.2.1.2.1 (.slice A_0 r.2.2.1.2.1.length c_0), ownC 162 (.pair (.int .u32) (.pair (.slice 5 (.int .u8)) (.pair .bool (.int .i64)))) r.2.2.2.1 (.slice A_1 r.2.2.2.1.length c_1), mapC .u32 (Value.int .i64) b3 r.2.2.2.2.1, ownC 3 (.int .i64) r.2.2.2.2.2.1 (.slice A_2 r.2.2.2.2.2.1.length c_2), boxC b4 203 [.slice A_3 r.2.2.2.2.2.2.1.length c_3, .int .i64 r.2.2.2.2.2.2.2], ownC 205 (.pair (.int .i64) (.pair (.int .i64) .bool)) r.2.2.2.2.2.2.1 (.slice A_3 r.2.2.2.2.2.2.1.length c_3)]) := by
  refine Spec.enter Try.func105 rfl (by kernel_rfl) (by kernel_rfl) fun w0 F0 h0 => ?_
  unfold Q13.f at H
  refine J.seq (J.region ?_)
  refine RJ.run ttok 2 rfl ?_
  refine RJ.fin [(0, .pointer (some ⟨b1, 0, none⟩))] rfl ?_
  refine J.seq (J.seq (J.region ?_))
  refine RJ.run ttok 3 rfl ?_
  refine RJ.q rfl rfl (q_load_box ttok 0 h0.wht rfl rfl rfl rfl rfl) ?_
  refine RJ.run ttok 2 rfl ?_
  refine RJ.fin [(0, _), (13, .bool (decide ((a0.2.2.2.1.length : Int) = 0)))] rfl ?_
  refine J.cond rfl (fun c1 => ?_) (fun c1 => ?_)
  · replace H := ite_t c1 H
    refine J.seq (J.region ?_)
    refine RJ.run ttok 3 rfl ?_
    refine RJ.q rfl rfl (q_load_box ttok 0 h0.wht rfl rfl rfl rfl rfl) ?_
    obtain ⟨r1, q1, H⟩ := bind_t H
    refine RJ.op rfl rfl (op_call [6, 6] (Q17.spec q1) rfl rfl rfl h0 rfl gnil) ?_
    rintro _ w1 ⟨_, ⟨rfl, rfl⟩, h1⟩
    replace h1 : St w0 F0 [boxC b4 203 [.slice A4 a0.2.2.2.2.1.length c_4, .int .i64 a0.2.2.2.2.2], ownC 205 (.pair (.int .i64) (.pair (.int .i64) .bool)) a0.2.2.2.2.1 (.slice A4 a0.2.2.2.2.1.length c_4), boxC b1 113 [.pointer (some ⟨b2, 0, none⟩), .slice A2 a0.2.1.length c_2, .map (some b3), .slice A3 a0.2.2.2.1.length c_3, .pointer (some ⟨b4, 0, none⟩)], boxC b2 51 [.int .i64 a0.1.1, .slice A1 a0.1.2.1.length c_1, .int .u64 a0.1.2.2.1, .int .u64 a0.1.2.2.2], ownC 5 (.int .u8) a0.1.2.1 (.slice A1 a0.1.2.1.length c_1), ownC 162 (.pair (.int .u32) (.pair (.slice 5 (.int .u8)) (.pair .bool (.int .i64)))) a0.2.1 (.slice A2 a0.2.1.length c_2), mapC .u32 (Value.int .i64) b3 a0.2.2.1, ownC 3 (.int .i64) a0.2.2.2.1 (.slice A3 a0.2.2.2.1.length c_3)] _ _ := h1
    refine RJ.run ttok 5 rfl ?_
    refine RJ.fin [(0, _), (4, .int .i64 r1.1), (5, .bool r1.2)] rfl ?_
    refine J.seq (J.seq (J.region ?_))
    refine RJ.run ttok 2 rfl ?_
    refine RJ.fin [(0, _), (4, _), (23, .bool (!r1.2))] rfl ?_
    refine J.cond rfl (fun c2 => ?_) (fun c2 => ?_)
    · replace H := ite_t c2 H
      refine J.seq (J.region ?_)
      refine RJ.run ttok 2 rfl ?_
      refine RJ.fin [(2, .int .i64 0), (3, .bool false)] rfl ?_
      refine J.ret ?_
      obtain rfl := Option.some.inj H
      exact ⟨_, _, _, (results_slots rfl), ⟨_, _, _, _, _, _, _, _, rfl, rfl⟩, h1.only [2, 2, 2, 2, 2, 2, 0, 0] rfl⟩
    replace H := ite_f c2 H
    refine J.skip ?_
    refine J.seq (J.region ?_)
    refine RJ.run ttok 4 rfl ?_
    refine RJ.q rfl rfl (q_load_box ttok 2 h1.wht rfl rfl rfl rfl rfl) ?_
    refine RJ.run ttok 1 rfl ?_
    obtain ⟨⟨p1, p2⟩, H⟩ := guard_t H
    have e1 := elem_A h1.wh (Gives.of 5 rfl own_rd) p1 p2
    refine RJ.q rfl rfl (q_index ttok rfl rfl rfl rfl rfl e1 p1 p2) ?_
    refine RJ.inline rfl rfl rfl rfl rfl Try.func100 rfl (by kernel_rfl) (by kernel_rfl) ?_
    refine J.seq (J.region ?_)
    refine RJ.run ttok 3 rfl ?_
    refine RJ.q rfl rfl (q_load_deep (f := 2) ttok h1.wht (Gives.of 5 rfl own_rd) p1 p2 rfl rfl rfl rfl rfl rfl) ?_
    refine RJ.fin [(0, _), (1, .pointer (some ⟨blk A2, ofs A2 + r1.1.toNat * 4, none⟩)), (7, .bool ((gt a0.2.1 r1.1).2.2.1))] rfl ?_
    refine J.cond rfl (fun c3 => ?_) (fun c3 => ?_)
    · replace H := ite_t c3 H
      refine J.seq ?_
      obtain ⟨A5, c_5, h2⟩ := h1.openI 5 rfl p1 p2
      refine J.heldSt mix (h2.only [0, 0, 0, 0, 2, 2] rfl) ?_
      have h3 := h2.drew
      refine HJ.run ttok rfl [0, 1, 2, 4, 5, 6, 8, 9, 10] rfl ?_
      refine HJ.q (i := 3) rfl rfl rfl rfl rfl rfl (q_load_box ttok 3 (fun w e => e) rfl rfl rfl rfl rfl) ?_
      refine HJ.q (i := 7) rfl rfl rfl rfl rfl rfl (q_load_deep (f := 0) ttok (fun w e => e) (Gives.of 0 rfl ownI_rd) p1 p2 rfl rfl rfl rfl rfl rfl) ?_
      refine HJ.q (i := 11) rfl rfl rfl rfl rfl rfl (q_load_I ttok (fun w e => e) (Gives.self 0 rfl) rfl rfl rfl rfl rfl) ?_
      obtain ⟨r2, q2, H⟩ := bind_t H
      refine HJ.op (i := 12) rfl rfl rfl rfl rfl (op_call [4, 4] (Q30.spec q2) rfl rfl rfl h3 rfl (gcons (Gives.of 0 rfl ownI_in) gnil)) ?_
      rintro _ w2 ⟨_, ⟨A6, c_6, rfl, rfl⟩, h4⟩
      replace h4 : St w0 F0 [boxC b2 51 [.int .i64 r2.2.1, .slice A6 r2.2.2.1.length c_6, .int .u64 r2.2.2.2.1, .int .u64 r2.2.2.2.2], ownC 5 (.int .u8) r2.2.2.1 (.slice A6 r2.2.2.1.length c_6), ownI 162 (.pair (.int .u32) (.pair (.slice 5 (.int .u8)) (.pair .bool (.int .i64)))) a0.2.1 A2 c_2 r1.1 1 5 (.int .u8) ((gt a0.2.1 r1.1).2.1) A5 c_5, _, _, _, _, _] _ _ := h4
      refine ⟨⟨[_, _], h4⟩, ?_⟩
      refine HJ.fin [(1, _)] rfl rfl ?_
      have h5 := h4.closeI 2 rfl
      refine J.region ?_
      refine RJ.run ttok 3 rfl ?_
      refine RJ.op rfl rfl (op_store_deep (ty := (.pair (.int .u32) (.pair (.slice 5 (.int .u8)) (.pair .bool (.int .i64))))) (f := 2) (ix := r1.1) ttok ((gt a0.2.1 r1.1).1, (gt a0.2.1 r1.1).2.1, false, (gt a0.2.1 r1.1).2.2.2) 0 rfl h5 rfl rfl p1 p2 rfl rfl rfl rfl rfl rfl (hnew_put rfl rfl)) ?_
      intro _ w3 h6
      replace h6 : St w0 F0 [ownC 162 (.pair (.int .u32) (.pair (.slice 5 (.int .u8)) (.pair .bool (.int .i64)))) (a0.2.1.set r1.1.toNat ((gt a0.2.1 r1.1).1, (gt a0.2.1 r1.1).2.1, false, (gt a0.2.1 r1.1).2.2.2)) (.slice A2 (a0.2.1.set r1.1.toNat ((gt a0.2.1 r1.1).1, (gt a0.2.1 r1.1).2.1, false, (gt a0.2.1 r1.1).2.2.2)).length c_2), _, _, _, _, _, _, _] _ _ := h6
      replace h6 : St w0 F0 [ownC 162 (.pair (.int .u32) (.pair (.slice 5 (.int .u8)) (.pair .bool (.int .i64)))) (a0.2.1.set r1.1.toNat ((gt a0.2.1 r1.1).1, (gt a0.2.1 r1.1).2.1, false, (gt a0.2.1 r1.1).2.2.2)) (.slice A2 (a0.2.1.set r1.1.toNat ((gt a0.2.1 r1.1).1, (gt a0.2.1 r1.1).2.1, false, (gt a0.2.1 r1.1).2.2.2)).length c_2), boxC b2 51 [.int .i64 r2.2.1, .slice A6 r2.2.2.1.length c_6, .int .u64 r2.2.2.2.1, .int .u64 r2.2.2.2.2], ownC 5 (.int .u8) r2.2.2.1 (.slice A6 r2.2.2.1.length c_6), boxC b4 203 [.slice A4 a0.2.2.2.2.1.length c_4, .int .i64 a0.2.2.2.2.2], ownC 205 (.pair (.int .i64) (.pair (.int .i64) .bool)) a0.2.2.2.2.1 (.slice A4 a0.2.2.2.2.1.length c_4), boxC b1 113 [.pointer (some ⟨b2, 0, none⟩), .slice A2 (a0.2.1.set r1.1.toNat ((gt a0.2.1 r1.1).1, (gt a0.2.1 r1.1).2.1, false, (gt a0.2.1 r1.1).2.2.2)).length c_2, .map (some b3), .slice A3 a0.2.2.2.1.length c_3, .pointer (some ⟨b4, 0, none⟩)], mapC .u32 (Value.int .i64) b3 a0.2.2.1, ownC 3 (.int .i64) a0.2.2.2.1 (.slice A3 a0.2.2.2.1.length c_3)] _ _ := h6.retell (by simp only [List.length_set])
      refine RJ.fin [] rfl ?_
      refine ⟨_, results_slots rfl, ?_⟩
      refine RJ.fin [(0, .pointer (some ⟨b1, 0, none⟩)), (4, .int .i64 r1.1)] rfl ?_
      refine J.region ?_
      refine RJ.run ttok 2 rfl ?_
      obtain ⟨r3, q3, H⟩ := bind_t H
      refine RJ.op rfl rfl (op_call [5, 1, 1, 0, 2, 2, 0, 0] (Q11.spec q3) rfl rfl rfl h6 rfl gnil) ?_
      rintro _ w4 ⟨_, ⟨A7, c_7, A8, c_8, A9, c_9, A10, c_10, rfl, rfl⟩, h7⟩
      replace h7 : St w0 F0 [boxC b1 113 [.pointer (some ⟨b2, 0, none⟩), .slice A8 r3.2.1.length c_8, .map (some b3), .slice A9 r3.2.2.2.1.length c_9, .pointer (some ⟨b4, 0, none⟩)], boxC b2 51 [.int .i64 r3.1.1, .slice A7 r3.1.2.1.length c_7, .int .u64 r3.1.2.2.1, .int .u64 r3.1.2.2.2], ownC 5 (.int .u8) r3.1.2.1 (.slice A7 r3.1.2.1.length c_7), ownC 162 (.pair (.int .u32) (.pair (.slice 5 (.int .u8)) (.pair .bool (.int .i64)))) r3.2.1 (.slice A8 r3.2.1.length c_8), mapC .u32 (Value.int .i64) b3 r3.2.2.1, ownC 3 (.int .i64) r3.2.2.2.1 (.slice A9 r3.2.2.2.1.length c_9), boxC b4 203 [.slice A10 r3.2.2.2.2.1.length c_10, .int .i64 r3.2.2.2.2.2], ownC 205 (.pair (.int .i64) (.pair (.int .i64) .bool)) r3.2.2.2.2.1 (.slice A10 r3.2.2.2.2.1.length c_10)] _ _ := h7
      refine RJ.fin [(0, _)] rfl ?_
      refine J.seq (J.region ?_)
      refine RJ.run ttok 3 rfl ?_
      refine RJ.q rfl rfl (q_load_box ttok 0 h7.wht rfl rfl rfl rfl rfl) ?_
      refine RJ.run ttok 3 rfl ?_
      refine RJ.fin [(0, _), (6, .int .i64 (w64 ((r3.2.2.2.1.length : Int) - 1)))] rfl ?_
      refine J.seq (J.region ?_)
      refine RJ.run ttok 3 rfl ?_
      refine RJ.q rfl rfl (q_load_box ttok 0 h7.wht rfl rfl rfl rfl rfl) ?_
      refine RJ.run ttok 1 rfl ?_
      obtain ⟨⟨p3, p4⟩, H⟩ := guard_t H
      have e2 := elem_A h7.wh (Gives.of 5 rfl own_rd) p3 p4
      refine RJ.q rfl rfl (q_index ttok rfl rfl rfl rfl rfl e2 p3 p4) ?_
      refine RJ.q rfl rfl (q_load_elem (f := 0) ttok rfl h7.wht (Gives.of 5 rfl own_rd) p3 p4 rfl rfl rfl rfl rfl) ?_
      refine RJ.run ttok 1 rfl ?_
      refine RJ.fin [(0, _), (6, _), (7, .int .i64 (gt r3.2.2.2.1 (w64 ((r3.2.2.2.1.length : Int) - 1))))] rfl ?_
      refine J.seq (J.region ?_)
      refine RJ.run ttok 4 rfl ?_
      refine RJ.q rfl rfl (q_load_box ttok 0 h7.wht rfl rfl rfl rfl rfl) ?_
      refine RJ.run ttok 1 rfl ?_
      obtain ⟨⟨p5, p6⟩, H⟩ := guard_t H
      have e3 := h7.cap (Gives.of 5 rfl own_rd)
      refine RJ.q rfl rfl (q_cut0 (h := (w64 ((r3.2.2.2.1.length : Int) - 1))) (sub := (r3.2.2.2.1.take ((w64 ((r3.2.2.2.1.length : Int) - 1))).toNat)) ttok rfl rfl rfl rfl e3 ⟨_, rfl⟩ p5 p6 rfl) ?_
      refine RJ.run ttok 2 rfl ?_
      refine RJ.op rfl rfl (op_store ttok 0 rfl h7 rfl rfl rfl rfl rfl rfl rfl) ?_
      intro _ w5 h8
      replace h8 : St w0 F0 [boxC b1 113 [.pointer (some ⟨b2, 0, none⟩), .slice A8 r3.2.1.length c_8, .map (some b3), .slice A9 (r3.2.2.2.1.take ((w64 ((r3.2.2.2.1.length : Int) - 1))).toNat).length c_9, .pointer (some ⟨b4, 0, none⟩)], _, _, _, _, _, _, _] _ _ := h8
      refine RJ.fin [(7, _)] rfl ?_
      refine J.seq (J.region ?_)
      refine RJ.run ttok 3 rfl ?_
      refine RJ.fin [(2, .int .i64 (gt r3.2.2.2.1 (w64 ((r3.2.2.2.1.length : Int) - 1)))), (3, .bool true)] rfl ?_
      refine J.ret ?_
      have h9 := h8.front (ty := (.int .i64)) rfl 5 (w64 ((r3.2.2.2.1.length : Int) - 1)).toNat rfl (by omega)
      obtain rfl := Option.some.inj H
      exact ⟨_, _, _, (results_slots rfl), ⟨_, _, _, _, _, _, _, _, rfl, rfl⟩, h9.only [1, 1, 1, 1, 1, 0, 0, 0] rfl⟩
    replace H := ite_f c3 H
    refine J.skip ?_
    refine ⟨_, results_slots rfl, ?_⟩
    refine RJ.fin [(0, _), (4, .int .i64 r1.1)] rfl ?_
    refine J.region ?_
    refine RJ.run ttok 2 rfl ?_
    obtain ⟨r4, q4, H⟩ := bind_t H
    refine RJ.op rfl rfl (op_call [2, 2, 2, 2, 2, 2, 0, 0] (Q11.spec q4) rfl rfl rfl h1 rfl gnil) ?_
    rintro _ w6 ⟨_, ⟨A11, c_11, A12, c_12, A13, c_13, A14, c_14, rfl, rfl⟩, h10⟩
    replace h10 : St w0 F0 [boxC b1 113 [.pointer (some ⟨b2, 0, none⟩), .slice A12 r4.2.1.length c_12, .map (some b3), .slice A13 r4.2.2.2.1.length c_13, .pointer (some ⟨b4, 0, none⟩)], boxC b2 51 [.int .i64 r4.1.1, .slice A11 r4.1.2.1.length c_11, .int .u64 r4.1.2.2.1, .int .u64 r4.1.2.2.2], ownC 5 (.int .u8) r4.1.2.1 (.slice A11 r4.1.2.1.length c_11), ownC 162 (.pair (.int .u32) (.pair (.slice 5 (.int .u8)) (.pair .bool (.int .i64)))) r4.2.1 (.slice A12 r4.2.1.length c_12), mapC .u32 (Value.int .i64) b3 r4.2.2.1, ownC 3 (.int .i64) r4.2.2.2.1 (.slice A13 r4.2.2.2.1.length c_13), boxC b4 203 [.slice A14 r4.2.2.2.2.1.length c_14, .int .i64 r4.2.2.2.2.2], ownC 205 (.pair (.int .i64) (.pair (.int .i64) .bool)) r4.2.2.2.2.1 (.slice A14 r4.2.2.2.2.1.length c_14)] _ _ := h10
    refine RJ.fin [(0, _)] rfl ?_
    refine J.seq (J.region ?_)
    refine RJ.run ttok 3 rfl ?_
    refine RJ.q rfl rfl (q_load_box ttok 0 h10.wht rfl rfl rfl rfl rfl) ?_
    refine RJ.run ttok 3 rfl ?_
    refine RJ.fin [(0, _), (6, .int .i64 (w64 ((r4.2.2.2.1.length : Int) - 1)))] rfl ?_
    refine J.seq (J.region ?_)
    refine RJ.run ttok 3 rfl ?_
    refine RJ.q rfl rfl (q_load_box ttok 0 h10.wht rfl rfl rfl rfl rfl) ?_
    refine RJ.run ttok 1 rfl ?_
    obtain ⟨⟨p7, p8⟩, H⟩ := guard_t H
    have e4 := elem_A h10.wh (Gives.of 5 rfl own_rd) p7 p8
    refine RJ.q rfl rfl (q_index ttok rfl rfl rfl rfl rfl e4 p7 p8) ?_
    refine RJ.q rfl rfl (q_load_elem (f := 0) ttok rfl h10.wht (Gives.of 5 rfl own_rd) p7 p8 rfl rfl rfl rfl rfl) ?_
    refine RJ.run ttok 1 rfl ?_
    refine RJ.fin [(0, _), (6, _), (7, .int .i64 (gt r4.2.2.2.1 (w64 ((r4.2.2.2.1.length : Int) - 1))))] rfl ?_
    refine J.seq (J.region ?_)
    refine RJ.run ttok 4 rfl ?_
    refine RJ.q rfl rfl (q_load_box ttok 0 h10.wht rfl rfl rfl rfl rfl) ?_
    refine RJ.run ttok 1 rfl ?_
    obtain ⟨⟨p9, p10⟩, H⟩ := guard_t H
    have e5 := h10.cap (Gives.of 5 rfl own_rd)
    refine RJ.q rfl rfl (q_cut0 (h := (w64 ((r4.2.2.2.1.length : Int) - 1))) (sub := (r4.2.2.2.1.take ((w64 ((r4.2.2.2.1.length : Int) - 1))).toNat)) ttok rfl rfl rfl rfl e5 ⟨_, rfl⟩ p9 p10 rfl) ?_
    refine RJ.run ttok 2 rfl ?_
    refine RJ.op rfl rfl (op_store ttok 0 rfl h10 rfl rfl rfl rfl rfl rfl rfl) ?_
    intro _ w7 h11
    replace h11 : St w0 F0 [boxC b1 113 [.pointer (some ⟨b2, 0, none⟩), .slice A12 r4.2.1.length c_12, .map (some b3), .slice A13 (r4.2.2.2.1.take ((w64 ((r4.2.2.2.1.length : Int) - 1))).toNat).length c_13, .pointer (some ⟨b4, 0, none⟩)], _, _, _, _, _, _, _] _ _ := h11
    refine RJ.fin [(7, _)] rfl ?_
    refine J.seq (J.region ?_)
    refine RJ.run ttok 3 rfl ?_
    refine RJ.fin [(2, .int .i64 (gt r4.2.2.2.1 (w64 ((r4.2.2.2.1.length : Int) - 1)))), (3, .bool true)] rfl ?_
    refine J.ret ?_
    have h12 := h11.front (ty := (.int .i64)) rfl 5 (w64 ((r4.2.2.2.1.length : Int) - 1)).toNat rfl (by omega)
    obtain rfl := Option.some.inj H
    exact ⟨_, _, _, (results_slots rfl), ⟨_, _, _, _, _, _, _, _, rfl, rfl⟩, h12.only [1, 1, 1, 1, 1, 0, 0, 0] rfl⟩
  replace H := ite_f c1 H
  refine J.skip ?_
  refine J.seq (J.region ?_)
  refine RJ.run ttok 3 rfl ?_
  refine RJ.q rfl rfl (q_load_box ttok 0 h0.wht rfl rfl rfl rfl rfl) ?_
  refine RJ.run ttok 3 rfl ?_
  refine RJ.fin [(0, _), (6, .int .i64 (w64 ((a0.2.2.2.1.length : Int) - 1)))] rfl ?_
  refine J.seq (J.region ?_)
  refine RJ.run ttok 3 rfl ?_
  refine RJ.q rfl rfl (q_load_box ttok 0 h0.wht rfl rfl rfl rfl rfl) ?_
  refine RJ.run ttok 1 rfl ?_
  obtain ⟨⟨p11, p12⟩, H⟩ := guard_t H
  have e6 := elem_A h0.wh (Gives.of 5 rfl own_rd) p11 p12
  refine RJ.q rfl rfl (q_index ttok rfl rfl rfl rfl rfl e6 p11 p12) ?_
  refine RJ.q rfl rfl (q_load_elem (f := 0) ttok rfl h0.wht (Gives.of 5 rfl own_rd) p11 p12 rfl rfl rfl rfl rfl) ?_
  refine RJ.run ttok 1 rfl ?_
  refine RJ.fin [(0, _), (6, _), (7, .int .i64 (gt a0.2.2.2.1 (w64 ((a0.2.2.2.1.length : Int) - 1))))] rfl ?_
  refine J.seq (J.region ?_)
  refine RJ.run ttok 4 rfl ?_
  refine RJ.q rfl rfl (q_load_box ttok 0 h0.wht rfl rfl rfl rfl rfl) ?_
  refine RJ.run ttok 1 rfl ?_
  obtain ⟨⟨p13, p14⟩, H⟩ := guard_t H
  have e7 := h0.cap (Gives.of 5 rfl own_rd)
  refine RJ.q rfl rfl (q_cut0 (h := (w64 ((a0.2.2.2.1.length : Int) - 1))) (sub := (a0.2.2.2.1.take ((w64 ((a0.2.2.2.1.length : Int) - 1))).toNat)) ttok rfl rfl rfl rfl e7 ⟨_, rfl⟩ p13 p14 rfl) ?_
  refine RJ.run ttok 2 rfl ?_
  refine RJ.op rfl rfl (op_store ttok 0 rfl h0 rfl rfl rfl rfl rfl rfl rfl) ?_
  intro _ w8 h13
  replace h13 : St w0 F0 [boxC b1 113 [.pointer (some ⟨b2, 0, none⟩), .slice A2 a0.2.1.length c_2, .map (some b3), .slice A3 (a0.2.2.2.1.take ((w64 ((a0.2.2.2.1.length : Int) - 1))).toNat).length c_3, .pointer (some ⟨b4, 0, none⟩)], boxC b2 51 [.int .i64 a0.1.1, .slice A1 a0.1.2.1.length c_1, .int .u64 a0.1.2.2.1, .int .u64 a0.1.2.2.2], ownC 5 (.int .u8) a0.1.2.1 (.slice A1 a0.1.2.1.length c_1), ownC 162 (.pair (.int .u32) (.pair (.slice 5 (.int .u8)) (.pair .bool (.int .i64)))) a0.2.1 (.slice A2 a0.2.1.length c_2), mapC .u32 (Value.int .i64) b3 a0.2.2.1, ownC 3 (.int .i64) a0.2.2.2.1 (.slice A3 a0.2.2.2.1.length c_3), boxC b4 203 [.slice A4 a0.2.2.2.2.1.length c_4, .int .i64 a0.2.2.2.2.2], ownC 205 (.pair (.int .i64) (.pair (.int .i64) .bool)) a0.2.2.2.2.1 (.slice A4 a0.2.2.2.2.1.length c_4)] _ _ := h13
  refine RJ.fin [(7, _)] rfl ?_
  refine J.seq (J.region ?_)
  refine RJ.run ttok 3 rfl ?_
  refine RJ.fin [(2, .int .i64 (gt a0.2.2.2.1 (w64 ((a0.2.2.2.1.length : Int) - 1)))), (3, .bool true)] rfl ?_
  refine J.ret ?_
  have h14 := h13.front (ty := (.int .i64)) rfl 5 (w64 ((a0.2.2.2.1.length : Int) - 1)).toNat rfl (by omega)
  obtain rfl := Option.some.inj H
  exact ⟨_, _, _, (results_slots rfl), ⟨_, _, _, _, _, _, _, _, rfl, rfl⟩, h14.only [1, 1, 1, 1, 1, 0, 0, 0] rfl⟩

def Q33.f (a0 : List (Int)) : Option (List (Int)) := if (([] : List (Int)).length + a0.length) * 1 ≤ 140737488355328 then (some (([] : List (Int)) ++ a0)) else none
theorem Q33.spec {a0 : List (Int)} {A1 : Option Addr} {c_1 : Nat} {r : List (Int)} (H : Q33.f a0 = some r) :
    Spec Try.prog 70 [.slice A1 a0.length c_1] [] [rdC 5 (.int .u8) a0 (.slice A1 a0.length c_1)] (fun v l => ∃ (A_0 : Option Addr) (c_0 : Nat), v = .slice A_0 r.length c_0 ∧ l = [ownC 5 (.int .u8) r (.slice A_0 r.length c_0)]) := by
  refine Spec.enter Try.func70 rfl (by kernel_rfl) (by kernel_rfl) fun w0 F0 h0 => ?_
  unfold Q33.f at H
  refine J.seq (J.region ?_)
  refine RJ.run ttok 1 rfl ?_
  refine RJ.fin [(0, .slice A1 a0.length c_1)] rfl ?_
  refine J.seq (J.seq (J.region ?_))
  refine RJ.run ttok 2 rfl ?_
  refine RJ.fin [(0, _), (4, .bool A1.isNone)] rfl ?_
  refine J.cond rfl (fun c1 => ?_) (fun c1 => ?_)
  · have e1 := h0.nilrow (Gives.self 0 rfl) (by simpa using c1)
    replace H : (some ([] : List (Int))) = some r := by rw [e1] at H; simpa using H
    refine J.seq (J.region ?_)
    refine RJ.run ttok 1 rfl ?_
    refine RJ.fin [(2, .slice none ([] : List (Int)).length 0)] rfl ?_
    refine J.ret ?_
    have h1 := h0.addNil 5 (.int .u8)
    obtain rfl := Option.some.inj H
    exact ⟨_, _, _, (results_slots rfl), ⟨_, _, rfl, rfl⟩, h1.only [0] rfl⟩
  refine J.skip ?_
  refine J.seq (J.region ?_)
  refine RJ.op rfl rfl (op_lit ttok (.int .u8) rfl ([] : List (Int)) rfl h0 rfl rfl (by decide) rfl rfl rfl rfl rfl rfl rfl) ?_
  rintro _ w1 ⟨b1, rfl, h2⟩
  replace h2 : St w0 F0 [ownC 5 (.int .u8) ([] : List (Int)) (.slice (some ⟨b1, 0, none⟩) ([] : List (Int)).length 0)] _ _ := h2
  refine RJ.run ttok 1 rfl ?_
  obtain ⟨p1, H⟩ := guard_t H
  refine RJ.op rfl rfl (op_append ttok rfl 0 rfl h2 rfl (Gives.self 0 rfl) rfl rfl rfl rfl rfl rfl (by decide) (by decide) p1) ?_
  rintro _ w2 ⟨A2, c_2, rfl, h3⟩
  replace h3 : St w0 F0 [ownC 5 (.int .u8) (([] : List (Int)) ++ a0) (.slice A2 (([] : List (Int)) ++ a0).length c_2)] _ _ := h3
  refine RJ.run ttok 1 rfl ?_
  refine RJ.fin [(2, .slice A2 (([] : List (Int)) ++ a0).length c_2)] rfl ?_
  refine J.ret ?_
  obtain rfl := Option.some.inj H
  exact ⟨_, _, _, (results_slots rfl), ⟨_, _, rfl, rfl⟩, h3.only [0] rfl⟩

def Q28.f (a0 : Int × List (Int) × (Int × Int)) (a1 : Int) : Option (List (Int) × Int × (Int × List (Int) × (Int × Int))) := (Q26.f (a0.1, a0.2.1, (a0.2.2.1, a0.2.2.2))).bind fun r1 => (if (decide (r1 = 0)) = true then (some (([] : List (Int)), 1, (a0.1, a0.2.1, (a0.2.2.1, a0.2.2.2)))) else ((Q26.f (a0.1, a0.2.1, (a0.2.2.1, a0.2.2.2))).bind fun r2 => (if (decide (r2 ≤ (w64 (a1)))) = true then (some (([] : List (Int)), 4, (a0.1, a0.2.1, (a0.2.2.1, a0.2.2.2)))) else (if 0 ≤ (w64 ((w64 (a1)) * a0.1)) ∧ (w64 ((w64 (a1)) * a0.1)) ≤ (w64 ((w64 ((w64 (a1)) * a0.1)) + a0.1)) ∧ (w64 ((w64 ((w64 (a1)) * a0.1)) + a0.1)) ≤ (a0.2.1.length : Int) then ((Q33.f ((a0.2.1.drop ((w64 ((w64 (a1)) * a0.1))).toNat).take (((w64 ((w64 ((w64 (a1)) * a0.1)) + a0.1))).toNat - ((w64 ((w64 (a1)) * a0.1))).toNat))).bind fun r3 => (some (r3, 0, (a0.1, a0.2.1, ((IntKind.u64.wrap (a0.2.2.1 + 1)), a0.2.2.2))))) else none))))
theorem Q28.spec {a0 : Int × List (Int) × (Int × Int)} {a1 : Int} {b1 : Nat} {A1 : Option Addr} {c_1 : Nat} {r : List (Int) × Int × (Int × List (Int) × (Int × Int))} (H : Q28.f a0 a1 = some r) :
    Spec Try.prog 17 [.pointer (some ⟨b1, 0, none⟩), .int .u32 a1] [boxC b1 51 [.int .i64 a0.1, .slice A1 a0.2.1.length c_1, .int .u64 a0.2.2.1, .int .u64 a0.2.2.2], ownC 5 (.int .u8) a0.2.1 (.slice A1 a0.2.1.length c_1)] [] (fun v l => ∃ (A_0 : Option Addr) (c_0 : Nat) (A_1 : Option Addr) (c_1 : Nat), v = .tuple #[.slice A_0 r.1.length c_0, .int .i64 r.2.1] ∧ l = [ownC 5 (.int .u8) r.1 (.slice A_0 r.1.length c_0), boxC b1 51 [.int .i64 r.2.2.1, .slice A_1 r.2.2.2.1.length c_1, .int .u64 r.2.2.2.2.1, .int .u64 r.2.2.2.2.2], ownC 5 (.int .u8) r.2.2.2.1 (.slice A_1 r.2.2.2.1.length c_1)]) := by
  refine Spec.enter Try.func17 rfl (by kernel_rfl) (by kernel_rfl) fun w0 F0 h0 => ?_
  unfold Q28.f at H
  refine J.seq (J.region ?_)
  refine RJ.run ttok 2 rfl ?_
  refine RJ.fin [(0, .pointer (some ⟨b1, 0, none⟩)), (1, .int .u32 a1)] rfl ?_
  refine J.seq (J.region ?_)
  refine RJ.run ttok 2 rfl ?_
  refine RJ.inline rfl rfl rfl rfl rfl Try.func69 rfl (by kernel_rfl) (by kernel_rfl) ?_
  refine J.seq (J.region ?_)
  refine RJ.run ttok 2 rfl ?_
  refine RJ.fin [(0, _), (1, _)] rfl ?_
  refine J.seq (J.block (J.seq (J.region ?_)))
  refine RJ.run ttok 1 rfl ?_
  obtain ⟨r1, q1, H⟩ := bind_t H
  refine RJ.op rfl rfl (op_call [0, 0] (Q26.spec q1) rfl rfl rfl h0 rfl gnil) ?_
  rintro _ w1 ⟨_, ⟨rfl, rfl⟩, h1⟩
  replace h1 : St w0 F0 [boxC b1 51 [.int .i64 a0.1, .slice A1 a0.2.1.length c_1, .int .u64 a0.2.2.1, .int .u64 a0.2.2.2], ownC 5 (.int .u8) a0.2.1 (.slice A1 a0.2.1.length c_1)] _ _ := h1
  refine RJ.run ttok 2 rfl ?_
  refine RJ.fin [(0, _), (1, _), (7, .bool (decide (r1 = 0)))] rfl ?_
  refine J.cond rfl (fun c1 => ?_) (fun c1 => ?_)
  · replace H := ite_t c1 H
    refine J.seq (J.region ?_)
    refine RJ.run ttok 2 rfl ?_
    refine RJ.fin [(4, .slice none ([] : List (Int)).length 0), (5, .int .i64 1)] rfl ?_
    refine J.ret ?_
    refine ⟨_, results_slots rfl, ?_⟩
    refine RJ.run ttok 5 rfl ?_
    refine RJ.fin [(0, .pointer (some ⟨b1, 0, none⟩)), (6, .slice none ([] : List (Int)).length 0), (7, .int .i64 1)] rfl ?_
    refine J.seq (J.seq (J.region ?_))
    refine RJ.run ttok 2 rfl ?_
    refine RJ.fin [(0, _), (6, _), (7, _), (15, .bool true)] rfl ?_
    refine J.condT rfl ?_
    refine J.seq (J.region ?_)
    refine RJ.run ttok 3 rfl ?_
    refine RJ.fin [(4, .slice none ([] : List (Int)).length 0), (5, .int .i64 1)] rfl ?_
    refine J.ret ?_
    have h2 := h1.addNil 5 (.int .u8)
    obtain rfl := Option.some.inj H
    exact ⟨_, _, _, (results_slots rfl), ⟨_, _, _, _, rfl, rfl⟩, h2.only [0, 0, 0] rfl⟩
  replace H := ite_f c1 H
  refine J.seq (J.region ?_)
  refine RJ.run ttok 3 rfl ?_
  obtain ⟨r2, q2, H⟩ := bind_t H
  refine RJ.op rfl rfl (op_call [0, 0] (Q26.spec q2) rfl rfl rfl h1 rfl gnil) ?_
  rintro _ w2 ⟨_, ⟨rfl, rfl⟩, h3⟩
  replace h3 : St w0 F0 [_, _] _ _ := h3
  refine RJ.run ttok 2 rfl ?_
  refine RJ.fin [(0, _), (1, _), (11, .bool (decide (r2 ≤ (w64 (a1)))))] rfl ?_
  refine J.cond rfl (fun c2 => ?_) (fun c2 => ?_)
  · replace H := ite_t c2 H
    refine J.seq (J.region ?_)
    refine RJ.run ttok 2 rfl ?_
    refine RJ.fin [(4, .slice none ([] : List (Int)).length 0), (5, .int .i64 4)] rfl ?_
    refine J.ret ?_
    refine ⟨_, results_slots rfl, ?_⟩
    refine RJ.run ttok 5 rfl ?_
    refine RJ.fin [(0, .pointer (some ⟨b1, 0, none⟩)), (6, .slice none ([] : List (Int)).length 0), (7, .int .i64 4)] rfl ?_
    refine J.seq (J.seq (J.region ?_))
    refine RJ.run ttok 2 rfl ?_
    refine RJ.fin [(0, _), (6, _), (7, _), (15, .bool true)] rfl ?_
    refine J.condT rfl ?_
    refine J.seq (J.region ?_)
    refine RJ.run ttok 3 rfl ?_
    refine RJ.fin [(4, .slice none ([] : List (Int)).length 0), (5, .int .i64 4)] rfl ?_
    refine J.ret ?_
    have h4 := h3.addNil 5 (.int .u8)
    obtain rfl := Option.some.inj H
    exact ⟨_, _, _, (results_slots rfl), ⟨_, _, _, _, rfl, rfl⟩, h4.only [0, 0, 0] rfl⟩
  replace H := ite_f c2 H
  refine J.skip ?_
  refine J.seq (J.region ?_)
  refine RJ.run ttok 5 rfl ?_
  refine RJ.q rfl rfl (q_load_box ttok 0 h3.wht rfl rfl rfl rfl rfl) ?_
  refine RJ.run ttok 2 rfl ?_
  refine RJ.fin [(0, _), (6, .int .i64 (w64 ((w64 (a1)) * a0.1)))] rfl ?_
  refine J.seq ?_
  refine J.heldSt mix h3 ?_
  have h5 := h3.drew
  refine HJ.run ttok rfl [0, 1, 2, 4, 5, 6, 7, 8] rfl ?_
  refine HJ.q (i := 3) rfl rfl rfl rfl rfl rfl (q_load_box ttok 0 (fun w e => e) rfl rfl rfl rfl rfl) ?_
  refine HJ.q (i := 9) rfl rfl rfl rfl rfl rfl (q_load_box ttok 0 (fun w e => e) rfl rfl rfl rfl rfl) ?_
  refine HJ.run ttok rfl [10] rfl ?_
  obtain ⟨⟨p1, p2, p3⟩, H⟩ := guard_t H
  have e1 := h5.cap (Gives.of 1 rfl own_rd)
  refine HJ.q (i := 11) rfl rfl rfl rfl rfl rfl (q_cut (l := (w64 ((w64 (a1)) * a0.1))) (h := (w64 ((w64 ((w64 (a1)) * a0.1)) + a0.1))) (sub := ((a0.2.1.drop ((w64 ((w64 (a1)) * a0.1))).toNat).take (((w64 ((w64 ((w64 (a1)) * a0.1)) + a0.1))).toNat - ((w64 ((w64 (a1)) * a0.1))).toNat))) ttok rfl rfl rfl rfl e1 ⟨_, rfl⟩ ⟨_, rfl⟩ p1 p2 p3 rfl) ?_
  refine HJ.run ttok rfl [12, 13] rfl ?_
  refine HJ.fin [(4, .slice (cutA A1 c_1 ((w64 ((w64 (a1)) * a0.1))).toNat 1) ((a0.2.1.drop ((w64 ((w64 (a1)) * a0.1))).toNat).take (((w64 ((w64 ((w64 (a1)) * a0.1)) + a0.1))).toNat - ((w64 ((w64 (a1)) * a0.1))).toNat)).length (c_1 - ((w64 ((w64 (a1)) * a0.1))).toNat)), (5, .int .i64 0)] rfl rfl ?_
  refine J.ret ?_
  refine ⟨_, results_slots rfl, ?_⟩
  refine RJ.run ttok 5 rfl ?_
  refine RJ.fin [(0, .pointer (some ⟨b1, 0, none⟩)), (6, .slice (cutA A1 c_1 ((w64 ((w64 (a1)) * a0.1))).toNat 1) ((a0.2.1.drop ((w64 ((w64 (a1)) * a0.1))).toNat).take (((w64 ((w64 ((w64 (a1)) * a0.1)) + a0.1))).toNat - ((w64 ((w64 (a1)) * a0.1))).toNat)).length (c_1 - ((w64 ((w64 (a1)) * a0.1))).toNat)), (7, .int .i64 0)] rfl ?_
  refine J.seq (J.seq (J.region ?_))
  refine RJ.run ttok 2 rfl ?_
  refine RJ.fin [(0, _), (6, _), (7, _), (15, .bool false)] rfl ?_
  refine J.condF rfl ?_
  refine J.skip ?_
  refine J.seq (J.region ?_)
  refine RJ.run ttok 4 rfl ?_
  refine RJ.q rfl rfl (q_load_box ttok 0 h5.wht rfl rfl rfl rfl rfl) ?_
  refine RJ.run ttok 4 rfl ?_
  refine RJ.op rfl rfl (op_store ttok 0 rfl h5 rfl rfl rfl rfl rfl rfl rfl) ?_
  intro _ w3 h6
  replace h6 : St w0 F0 [boxC b1 51 [.int .i64 a0.1, .slice A1 a0.2.1.length c_1, .int .u64 (IntKind.u64.wrap (a0.2.2.1 + 1)), .int .u64 a0.2.2.2], _] _ _ := h6
  refine RJ.fin [(6, _)] rfl ?_
  refine J.seq (J.region ?_)
  refine RJ.run ttok 1 rfl ?_
  obtain ⟨r3, q3, H⟩ := bind_t H
  refine RJ.op rfl rfl (op_call [] (Q33.spec q3) rfl rfl rfl h6 rfl (gcons ((Gives.of 1 rfl own_rd).trans (rd_cut (ty := (.int .u8)) (l := (w64 ((w64 (a1)) * a0.1))) (h := (w64 ((w64 ((w64 (a1)) * a0.1)) + a0.1))) (sub := ((a0.2.1.drop ((w64 ((w64 (a1)) * a0.1))).toNat).take (((w64 ((w64 ((w64 (a1)) * a0.1)) + a0.1))).toNat - ((w64 ((w64 (a1)) * a0.1))).toNat))) rfl p1 p2 p3 rfl)) gnil)) ?_
  rintro _ w4 ⟨_, ⟨A2, c_2, rfl, rfl⟩, h7⟩
  replace h7 : St w0 F0 [ownC 5 (.int .u8) r3 (.slice A2 r3.length c_2), _, _] _ _ := h7
  refine RJ.run ttok 2 rfl ?_
  refine RJ.fin [(4, .slice A2 r3.length c_2), (5, .int .i64 0)] rfl ?_
  refine J.ret ?_
  obtain rfl := Option.some.inj H
  exact ⟨_, _, _, (results_slots rfl), ⟨_, _, _, _, rfl, rfl⟩, h7.only [0, 0, 0] rfl⟩

def Q6.f (a0 : (Int × List (Int) × (Int × Int)) × (List (Int × List (Int) × Bool × Int)) × (List (Int × Int)) × List (Int) × ((List (Int × Int × Bool)) × Int)) (a1 : Int) : Option (Int × ((Int × List (Int) × (Int × Int)) × (List (Int × List (Int) × Bool × Int)) × (List (Int × Int)) × List (Int) × ((List (Int × Int × Bool)) × Int))) := (Q14.f ((a0.1.1, a0.1.2.1, (a0.1.2.2.1, a0.1.2.2.2)), a0.2.1, a0.2.2.1, a0.2.2.2.1, (a0.2.2.2.2.1, a0.2.2.2.2.2)) a1).bind fun r1 => (if (!decide (r1 = 0)) = true then (some (r1, ((a0.1.1, a0.1.2.1, (a0.1.2.2.1, a0.1.2.2.2)), a0.2.1, a0.2.2.1, a0.2.2.2.1, (a0.2.2.2.2.1, a0.2.2.2.2.2)))) else (if (mhas a0.2.2.1 a1) = true then (if 0 ≤ (mget (0 : Int) a0.2.2.1 a1) ∧ (mget (0 : Int) a0.2.2.1 a1) < (a0.2.1.length : Int) then ((Q15.f (a0.2.2.2.2.1, a0.2.2.2.2.2) (mget (0 : Int) a0.2.2.1 a1)).bind fun r2 => (some (0, ((a0.1.1, a0.1.2.1, (a0.1.2.2.1, a0.1.2.2.2)), (a0.2.1.set (mget (0 : Int) a0.2.2.1 a1).toNat ((gt a0.2.1 (mget (0 : Int) a0.2.2.1 a1)).1, (gt a0.2.1 (mget (0 : Int) a0.2.2.1 a1)).2.1, (gt a0.2.1 (mget (0 : Int) a0.2.2.1 a1)).2.2.1, (w64 (((gt a0.2.1 (mget (0 : Int) a0.2.2.1 a1)).2.2.2) + 1)))), a0.2.2.1, a0.2.2.2.1, (r2.2.1, r2.2.2))))) else none) else ((Q13.f ((a0.1.1, a0.1.2.1, (a0.1.2.2.1, a0.1.2.2.2)), a0.2.1, a0.2.2.1, a0.2.2.2.1, (a0.2.2.2.2.1, a0.2.2.2.2.2))).bind fun r3 => (if (!r3.2.1) = true then (some (7, ((r3.2.2.1.1, r3.2.2.1.2.1, (r3.2.2.1.2.2.1, r3.2.2.1.2.2.2)), r3.2.2.2.1, r3.2.2.2.2.1, r3.2.2.2.2.2.1, (r3.2.2.2.2.2.2.1, r3.2.2.2.2.2.2.2)))) else ((Q28.f (r3.2.2.1.1, r3.2.2.1.2.1, (r3.2.2.1.2.2.1, r3.2.2.1.2.2.2)) a1).bind fun r4 => (if (!decide (r4.2.1 = 0)) = true then (if (r3.2.2.2.2.2.1.length + ([r3.1] : List (Int)).length) * 8 ≤ 140737488355328 then (some (r4.2.1, ((r4.2.2.1, r4.2.2.2.1, (r4.2.2.2.2.1, r4.2.2.2.2.2)), r3.2.2.2.1, r3.2.2.2.2.1, (r3.2.2.2.2.2.1 ++ ([r3.1] : List (Int))), (r3.2.2.2.2.2.2.1, r3.2.2.2.2.2.2.2)))) else none) else (if 0 ≤ r3.1 ∧ r3.1 < (r3.2.2.2.1.length : Int) then ((Q15.f (r3.2.2.2.2.2.2.1, r3.2.2.2.2.2.2.2) r3.1).bind fun r5 => (some (0, ((r4.2.2.1, r4.2.2.2.1, (r4.2.2.2.2.1, r4.2.2.2.2.2)), (r3.2.2.2.1.set r3.1.toNat (a1, r4.1, false, 1)), (mput a1 r3.1 r3.2.2.2.2.1), r3.2.2.2.2.2.1, (r5.2.1, r5.2.2))))) else none)))))))
theorem Q6.spec {a0 : (Int × List (Int) × (Int × Int)) × (List (Int × List (Int) × Bool × Int)) × (List (Int × Int)) × List (Int) × ((List (Int × Int × Bool)) × Int)} {a1 : Int} {b1 : Nat} {b2 : Nat} {b3 : Nat} {b4 : Nat} {A1 : Option Addr} {c_1 : Nat} {A2 : Option Addr} {c_2 : Nat} {A3 : Option Addr} {c_3 : Nat} {A4 : Option Addr} {c_4 : Nat} {r : Int × ((Int × List (Int) × (Int × Int)) × (List (Int × List (Int) × Bool × Int)) × (List (Int × Int)) × List (Int) × ((List (Int × Int × Bool)) × Int))} (H : Q6.f a0 a1 = some r) :
    Spec Try.prog 56 [.pointer (some ⟨b1, 0, none⟩), .int .u32 a1] [boxC b1 113 [.pointer (some ⟨b2, 0, none⟩), .slice A2 a0.2.1.length c_2, .map (some b3), .slice A3 a0.2.2.2.1.length c_3, .pointer (some ⟨b4, 0, none⟩)], boxC b2 51 [.int .i64 a0.1.1, .slice A1 a0.1.2.1.length c_1, .int .u64 a0.1.2.2.1, .int .u64 a0.1.2.2.2], ownC 5 (.int .u8) a0.1.2.1 (.slice A1 a0.1.2.1.length c_1), ownC 162 (.pair (.int .u32) (.pair (.slice 5 (.int .u8)) (.pair .bool (.int .i64)))) a0.2.1 (.slice A2 a0.2.1.length c_2), mapC .u32 (Value.int .i64) b3 a0.2.2.1, ownC 3 (.int .i64) a0.2.2.2.1 (.slice A3 a0.2.2.2.1.length c_3), boxC b4 203 [.slice A4 a0.2.2.2.2.1.length c_4, .int .i64 a0.2.2.2.2.2], ownC 205 (.pair (.int .i64) (.pair (.int .i64) .bool)) a0.2.2.2.2.1 (.slice A4 a0.2.2.2.2.1.length c_4)] [] (fun v l => ∃ (A_0 : Option Addr) (c_0 : Nat) (A_1 : Option Addr) (c_1 : Nat) (A_2 : Option Addr) (c_2 : Nat) (A_3 : Option Addr) (c_3 : Nat), v = .int .i64 r.1 ∧ l = [boxC b1 113 [.pointer (some ⟨b2, 0, none⟩), .slice A_1 r.2.2.1.length c_1, .map (some b3), .slice A_2 r.2.2.2.2.1.length c_2, .pointer (some ⟨b4, 0, none⟩)], boxC b2 51 [.int .i64 r.2.1.1, .slice A_0 r.2.1.2.1.length c_0, .int .u64 r.2.1.2.2.1, .int .u64 r.2.1.2.2.2], ownC 5 (.int .u8) r.2.1.2.1 (.slice A_0 r.2.1.2.1.length c_0), ownC 162 (.pair (.int .u32) (.pair (.slice 5 (.int .u8)) (.pair .bool (.int .i64)))) r.2.2.1 (.slice A_1 r.2.2.1.length c_1), mapC .u32 (Value.int .i64) b3 r.2.2.2.1, ownC 3 (.int .i64) r.2.2.2.2.1 (.slice A_2 r.2.2.2.2.1.length c_2), boxC b4 203 [.slice A_3 r.2.2.2.2.2.1.length c_3, .int .i64 r.2.2.2.2.2.2], ownC 205 (.pair (.int .i64) (.pair (.int .i64) .bool)) r.2.2.2.2.2.1 (.slice A_3 r.2.2.2.2.2.1.length c_3)]) := by
  refine Spec.enter Try.func56 rfl (by kernel_rfl) (by kernel_rfl) fun w0 F0 h0 => ?_
  unfold Q6.f at H
  refine J.seq (J.region ?_)
  refine RJ.run ttok 1 rfl ?_
  refine RJ.fin [(0, .pointer (some ⟨b1, 0, none⟩)), (1, .int .u32 a1)] rfl ?_
  refine J.seq (J.seq (J.region ?_))
  refine RJ.run ttok 2 rfl ?_
  obtain ⟨r1, q1, H⟩ := bind_t H
  refine RJ.op rfl rfl (op_call [0, 0, 0, 0, 0, 0, 0, 0] (Q14.spec q1) rfl rfl rfl h0 rfl gnil) ?_
  rintro _ w1 ⟨_, ⟨rfl, rfl⟩, h1⟩
  replace h1 : St w0 F0 [boxC b1 113 [.pointer (some ⟨b2, 0, none⟩), .slice A2 a0.2.1.length c_2, .map (some b3), .slice A3 a0.2.2.2.1.length c_3, .pointer (some ⟨b4, 0, none⟩)], boxC b2 51 [.int .i64 a0.1.1, .slice A1 a0.1.2.1.length c_1, .int .u64 a0.1.2.2.1, .int .u64 a0.1.2.2.2], ownC 5 (.int .u8) a0.1.2.1 (.slice A1 a0.1.2.1.length c_1), ownC 162 (.pair (.int .u32) (.pair (.slice 5 (.int .u8)) (.pair .bool (.int .i64)))) a0.2.1 (.slice A2 a0.2.1.length c_2), mapC .u32 (Value.int .i64) b3 a0.2.2.1, ownC 3 (.int .i64) a0.2.2.2.1 (.slice A3 a0.2.2.2.1.length c_3), boxC b4 203 [.slice A4 a0.2.2.2.2.1.length c_4, .int .i64 a0.2.2.2.2.2], ownC 205 (.pair (.int .i64) (.pair (.int .i64) .bool)) a0.2.2.2.2.1 (.slice A4 a0.2.2.2.2.1.length c_4)] _ _ := h1
  refine RJ.run ttok 1 rfl ?_
  refine RJ.fin [(0, _), (1, _), (5, .int .i64 r1)] rfl ?_
  refine J.seq (J.region ?_)
  refine RJ.run ttok 2 rfl ?_
  refine RJ.fin [(0, _), (1, _), (5, _), (16, .bool (!decide (r1 = 0)))] rfl ?_
  refine J.cond rfl (fun c1 => ?_) (fun c1 => ?_)
  · replace H := ite_t c1 H
    refine J.seq (J.region ?_)
    refine RJ.run ttok 2 rfl ?_
    refine RJ.fin [(4, .int .i64 r1)] rfl ?_
    refine J.ret ?_
    obtain rfl := Option.some.inj H
    exact ⟨_, _, _, (results_slots rfl), ⟨_, _, _, _, _, _, _, _, rfl, rfl⟩, h1.only [0, 0, 0, 0, 0, 0, 0, 0] rfl⟩
  replace H := ite_f c1 H
  refine J.skip ?_
  refine J.seq (J.seq (J.region ?_))
  refine RJ.run ttok 3 rfl ?_
  refine RJ.q rfl rfl (q_load_box ttok 0 h1.wht rfl rfl rfl rfl rfl) ?_
  refine RJ.run ttok 1 rfl ?_
  refine RJ.q rfl rfl (q_lookup_ok ttok (0 : Int) 4 h1.wht rfl rfl rfl rfl rfl rfl rfl rfl rfl rfl) ?_
  refine RJ.run ttok 5 rfl ?_
  refine RJ.fin [(0, _), (1, _), (6, .int .i64 (mget (0 : Int) a0.2.2.1 a1)), (7, .bool (mhas a0.2.2.1 a1))] rfl ?_
  refine J.seq (J.region ?_)
  refine RJ.run ttok 1 rfl ?_
  refine RJ.fin [(0, _), (1, _), (6, _), (27, .bool (mhas a0.2.2.1 a1))] rfl ?_
  refine J.cond rfl (fun c2 => ?_) (fun c2 => ?_)
  · replace H := ite_t c2 H
    refine J.seq (J.region ?_)
    refine RJ.run ttok 3 rfl ?_
    refine RJ.q rfl rfl (q_load_box ttok 0 h1.wht rfl rfl rfl rfl rfl) ?_
    refine RJ.run ttok 1 rfl ?_
    obtain ⟨⟨p1, p2⟩, H⟩ := guard_t H
    have e1 := elem_A h1.wh (Gives.of 3 rfl own_rd) p1 p2
    refine RJ.q rfl rfl (q_index ttok rfl rfl rfl rfl rfl e1 p1 p2) ?_
    refine RJ.run ttok 1 rfl ?_
    refine RJ.q rfl rfl (q_load_deep (f := 3) ttok h1.wht (Gives.of 3 rfl own_rd) p1 p2 rfl rfl rfl rfl rfl rfl) ?_
    refine RJ.run ttok 1 rfl ?_
    refine RJ.q rfl rfl (q_index ttok rfl rfl rfl rfl rfl e1 p1 p2) ?_
    refine RJ.run ttok 1 rfl ?_
    refine RJ.op rfl rfl (op_store_deep (ty := (.pair (.int .u32) (.pair (.slice 5 (.int .u8)) (.pair .bool (.int .i64))))) (f := 3) (ix := (mget (0 : Int) a0.2.2.1 a1)) ttok ((gt a0.2.1 (mget (0 : Int) a0.2.2.1 a1)).1, (gt a0.2.1 (mget (0 : Int) a0.2.2.1 a1)).2.1, (gt a0.2.1 (mget (0 : Int) a0.2.2.1 a1)).2.2.1, (w64 (((gt a0.2.1 (mget (0 : Int) a0.2.2.1 a1)).2.2.2) + 1))) 3 rfl h1 rfl rfl p1 p2 rfl rfl rfl rfl rfl rfl (hnew_put rfl rfl)) ?_
    intro _ w2 h2
    replace h2 : St w0 F0 [ownC 162 (.pair (.int .u32) (.pair (.slice 5 (.int .u8)) (.pair .bool (.int .i64)))) (a0.2.1.set (mget (0 : Int) a0.2.2.1 a1).toNat ((gt a0.2.1 (mget (0 : Int) a0.2.2.1 a1)).1, (gt a0.2.1 (mget (0 : Int) a0.2.2.1 a1)).2.1, (gt a0.2.1 (mget (0 : Int) a0.2.2.1 a1)).2.2.1, (w64 (((gt a0.2.1 (mget (0 : Int) a0.2.2.1 a1)).2.2.2) + 1)))) (.slice A2 (a0.2.1.set (mget (0 : Int) a0.2.2.1 a1).toNat ((gt a0.2.1 (mget (0 : Int) a0.2.2.1 a1)).1, (gt a0.2.1 (mget (0 : Int) a0.2.2.1 a1)).2.1, (gt a0.2.1 (mget (0 : Int) a0.2.2.1 a1)).2.2.1, (w64 (((gt a0.2.1 (mget (0 : Int) a0.2.2.1 a1)).2.2.2) + 1)))).length c_2), _, _, _, _, _, _, _] _ _ := h2
    replace h2 : St w0 F0 [ownC 162 (.pair (.int .u32) (.pair (.slice 5 (.int .u8)) (.pair .bool (.int .i64)))) (a0.2.1.set (mget (0 : Int) a0.2.2.1 a1).toNat ((gt a0.2.1 (mget (0 : Int) a0.2.2.1 a1)).1, (gt a0.2.1 (mget (0 : Int) a0.2.2.1 a1)).2.1, (gt a0.2.1 (mget (0 : Int) a0.2.2.1 a1)).2.2.1, (w64 (((gt a0.2.1 (mget (0 : Int) a0.2.2.1 a1)).2.2.2) + 1)))) (.slice A2 (a0.2.1.set (mget (0 : Int) a0.2.2.1 a1).toNat ((gt a0.2.1 (mget (0 : Int) a0.2.2.1 a1)).1, (gt a0.2.1 (mget (0 : Int) a0.2.2.1 a1)).2.1, (gt a0.2.1 (mget (0 : Int) a0.2.2.1 a1)).2.2.1, (w64 (((gt a0.2.1 (mget (0 : Int) a0.2.2.1 a1)).2.2.2) + 1)))).length c_2), boxC b1 113 [.pointer (some ⟨b2, 0, none⟩), .slice A2 (a0.2.1.set (mget (0 : Int) a0.2.2.1 a1).toNat ((gt a0.2.1 (mget (0 : Int) a0.2.2.1 a1)).1, (gt a0.2.1 (mget (0 : Int) a0.2.2.1 a1)).2.1, (gt a0.2.1 (mget (0 : Int) a0.2.2.1 a1)).2.2.1, (w64 (((gt a0.2.1 (mget (0 : Int) a0.2.2.1 a1)).2.2.2) + 1)))).length c_2, .map (some b3), .slice A3 a0.2.2.2.1.length c_3, .pointer (some ⟨b4, 0, none⟩)], boxC b2 51 [.int .i64 a0.1.1, .slice A1 a0.1.2.1.length c_1, .int .u64 a0.1.2.2.1, .int .u64 a0.1.2.2.2], ownC 5 (.int .u8) a0.1.2.1 (.slice A1 a0.1.2.1.length c_1), mapC .u32 (Value.int .i64) b3 a0.2.2.1, ownC 3 (.int .i64) a0.2.2.2.1 (.slice A3 a0.2.2.2.1.length c_3), boxC b4 203 [.slice A4 a0.2.2.2.2.1.length c_4, .int .i64 a0.2.2.2.2.2], ownC 205 (.pair (.int .i64) (.pair (.int .i64) .bool)) a0.2.2.2.2.1 (.slice A4 a0.2.2.2.2.1.length c_4)] _ _ := h2.retell (by simp only [List.length_set])
    refine RJ.fin [(0, _), (6, _)] rfl ?_
    refine J.seq (J.region ?_)
    refine RJ.run ttok 3 rfl ?_
    refine RJ.q rfl rfl (q_load_box ttok 1 h2.wht rfl rfl rfl rfl rfl) ?_
    refine RJ.run ttok 1 rfl ?_
    obtain ⟨r2, q2, H⟩ := bind_t H
    refine RJ.op rfl rfl (op_call [6, 6] (Q15.spec q2) rfl rfl rfl h2 rfl gnil) ?_
    rintro _ w3 ⟨_, ⟨A5, c_5, rfl, rfl⟩, h3⟩
    replace h3 : St w0 F0 [boxC b4 203 [.slice A5 r2.2.1.length c_5, .int .i64 r2.2.2], ownC 205 (.pair (.int .i64) (.pair (.int .i64) .bool)) r2.2.1 (.slice A5 r2.2.1.length c_5), _, boxC b1 113 [.pointer (some ⟨b2, 0, none⟩), .slice A2 (a0.2.1.set (mget (0 : Int) a0.2.2.1 a1).toNat ((gt a0.2.1 (mget (0 : Int) a0.2.2.1 a1)).1, (gt a0.2.1 (mget (0 : Int) a0.2.2.1 a1)).2.1, (gt a0.2.1 (mget (0 : Int) a0.2.2.1 a1)).2.2.1, (w64 (((gt a0.2.1 (mget (0 : Int) a0.2.2.1 a1)).2.2.2) + 1)))).length c_2, .map (some b3), .slice A3 a0.2.2.2.1.length c_3, .pointer (some ⟨b4, 0, none⟩)], _, _, _, _] _ _ := h3
    refine RJ.fin [] rfl ?_
    refine J.seq (J.region ?_)
    refine RJ.run ttok 1 rfl ?_
    refine RJ.fin [(4, .int .i64 0)] rfl ?_
    refine J.ret ?_
    obtain rfl := Option.some.inj H
    exact ⟨_, _, _, (results_slots rfl), ⟨_, _, _, _, _, _, _, _, rfl, rfl⟩, h3.only [3, 3, 3, 2, 2, 2, 0, 0] rfl⟩
  replace H := ite_f c2 H
  refine J.skip ?_
  refine J.seq (J.region ?_)
  refine RJ.run ttok 1 rfl ?_
  obtain ⟨r3, q3, H⟩ := bind_t H
  refine RJ.op rfl rfl (op_call [0, 0, 0, 0, 0, 0, 0, 0] (Q13.spec q3) rfl rfl rfl h1 rfl gnil) ?_
  rintro _ w4 ⟨_, ⟨A6, c_6, A7, c_7, A8, c_8, A9, c_9, rfl, rfl⟩, h4⟩
  replace h4 : St w0 F0 [boxC b1 113 [.pointer (some ⟨b2, 0, none⟩), .slice A7 r3.2.2.2.1.length c_7, .map (some b3), .slice A8 r3.2.2.2.2.2.1.length c_8, .pointer (some ⟨b4, 0, none⟩)], boxC b2 51 [.int .i64 r3.2.2.1.1, .slice A6 r3.2.2.1.2.1.length c_6, .int .u64 r3.2.2.1.2.2.1, .int .u64 r3.2.2.1.2.2.2], ownC 5 (.int .u8) r3.2.2.1.2.1 (.slice A6 r3.2.2.1.2.1.length c_6), ownC 162 (.pair (.int .u32) (.pair (.slice 5 (.int .u8)) (.pair .bool (.int .i64)))) r3.2.2.2.1 (.slice A7 r3.2.2.2.1.length c_7), mapC .u32 (Value.int .i64) b3 r3.2.2.2.2.1, ownC 3 (.int .i64) r3.2.2.2.2.2.1 (.slice A8 r3.2.2.2.2.2.1.length c_8), boxC b4 203 [.slice A9 r3.2.2.2.2.2.2.1.length c_9, .int .i64 r3.2.2.2.2.2.2.2], ownC 205 (.pair (.int .i64) (.pair (.int .i64) .bool)) r3.2.2.2.2.2.2.1 (.slice A9 r3.2.2.2.2.2.2.1.length c_9)] _ _ := h4
  refine RJ.run ttok 5 rfl ?_
  refine RJ.fin [(0, _), (1, _), (8, .int .i64 r3.1), (9, .bool r3.2.1)] rfl ?_
  refine J.seq (J.seq (J.region ?_))
  refine RJ.run ttok 2 rfl ?_
  refine RJ.fin [(0, _), (1, _), (8, _), (51, .bool (!r3.2.1))] rfl ?_
  refine J.cond rfl (fun c3 => ?_) (fun c3 => ?_)
  · replace H := ite_t c3 H
    refine J.seq (J.region ?_)
    refine RJ.run ttok 1 rfl ?_
    refine RJ.fin [(4, .int .i64 7)] rfl ?_
    refine J.ret ?_
    obtain rfl := Option.some.inj H
    exact ⟨_, _, _, (results_slots rfl), ⟨_, _, _, _, _, _, _, _, rfl, rfl⟩, h4.only [0, 0, 0, 0, 0, 0, 0, 0] rfl⟩
  replace H := ite_f c3 H
  refine J.skip ?_
  refine J.seq (J.region ?_)
  refine RJ.run ttok 3 rfl ?_
  refine RJ.q rfl rfl (q_load_box ttok 0 h4.wht rfl rfl rfl rfl rfl) ?_
  refine RJ.run ttok 1 rfl ?_
  obtain ⟨r4, q4, H⟩ := bind_t H
  refine RJ.op rfl rfl (op_call [1, 1] (Q28.spec q4) rfl rfl rfl h4 rfl gnil) ?_
  rintro _ w5 ⟨_, ⟨A10, c_10, A11, c_11, rfl, rfl⟩, h5⟩
  replace h5 : St w0 F0 [ownC 5 (.int .u8) r4.1 (.slice A10 r4.1.length c_10), boxC b2 51 [.int .i64 r4.2.2.1, .slice A11 r4.2.2.2.1.length c_11, .int .u64 r4.2.2.2.2.1, .int .u64 r4.2.2.2.2.2], ownC 5 (.int .u8) r4.2.2.2.1 (.slice A11 r4.2.2.2.1.length c_11), _, _, _, _, _, _] _ _ := h5
  refine RJ.run ttok 5 rfl ?_
  refine RJ.fin [(0, _), (1, _), (8, _), (10, .slice A10 r4.1.length c_10), (11, .int .i64 r4.2.1)] rfl ?_
  refine J.seq (J.seq (J.region ?_))
  refine RJ.run ttok 2 rfl ?_
  refine RJ.fin [(0, _), (1, _), (8, _), (10, _), (11, _), (62, .bool (!decide (r4.2.1 = 0)))] rfl ?_
  refine J.cond rfl (fun c4 => ?_) (fun c4 => ?_)
  · replace H := ite_t c4 H
    refine J.seq (J.region ?_)
    refine RJ.run ttok 4 rfl ?_
    refine RJ.q rfl rfl (q_load_box ttok 3 h5.wht rfl rfl rfl rfl rfl) ?_
    refine RJ.run ttok 1 rfl ?_
    refine RJ.op rfl rfl (op_lit ttok (.int .i64) rfl ([r3.1] : List (Int)) rfl h5 rfl rfl (by decide) rfl rfl rfl rfl rfl rfl rfl) ?_
    rintro _ w6 ⟨b5, rfl, h6⟩
    replace h6 : St w0 F0 [ownC 3 (.int .i64) ([r3.1] : List (Int)) (.slice (some ⟨b5, 0, none⟩) ([r3.1] : List (Int)).length 1), _, _, _, _, _, _, _, _, _] _ _ := h6
    obtain ⟨p3, H⟩ := guard_t H
    refine RJ.op rfl rfl (op_append ttok rfl 7 rfl h6 rfl (Gives.of 0 rfl own_rd) rfl rfl rfl rfl rfl rfl (by decide) (by decide) p3) ?_
    rintro _ w7 ⟨A12, c_12, rfl, h7⟩
    replace h7 : St w0 F0 [ownC 3 (.int .i64) (r3.2.2.2.2.2.1 ++ ([r3.1] : List (Int))) (.slice A12 (r3.2.2.2.2.2.1 ++ ([r3.1] : List (Int))).length c_12), _, _, _, _, _, _, _, _, _] _ _ := h7
    refine RJ.run ttok 2 rfl ?_
    refine RJ.op rfl rfl (op_store ttok 5 rfl h7 rfl rfl rfl rfl rfl rfl rfl) ?_
    intro _ w8 h8
    replace h8 : St w0 F0 [boxC b1 113 [.pointer (some ⟨b2, 0, none⟩), .slice A7 r3.2.2.2.1.length c_7, .map (some b3), .slice A12 (r3.2.2.2.2.2.1 ++ ([r3.1] : List (Int))).length c_12, .pointer (some ⟨b4, 0, none⟩)], _, _, _, _, _, _, _, _, _] _ _ := h8
    refine RJ.fin [(11, _)] rfl ?_
    have h9 := h8.only [0, 0, 2, 2, 2, 2, 2, 2] rfl
    replace h9 : St w0 F0 [_, _, _, _, _, _, _, _] _ _ := h9
    refine J.seq (J.region ?_)
    refine RJ.run ttok 2 rfl ?_
    refine RJ.fin [(4, .int .i64 r4.2.1)] rfl ?_
    refine J.ret ?_
    obtain rfl := Option.some.inj H
    exact ⟨_, _, _, (results_slots rfl), ⟨_, _, _, _, _, _, _, _, rfl, rfl⟩, h9.only [0, 1, 1, 1, 1, 0, 0, 0] rfl⟩
  replace H := ite_f c4 H
  refine J.skip ?_
  refine J.seq (J.region ?_)
  refine RJ.run ttok 5 rfl ?_
  refine RJ.inline rfl rfl rfl rfl rfl Try.func106 rfl (by kernel_rfl) (by kernel_rfl) ?_
  refine J.seq (J.region ?_)
  refine RJ.op rfl rfl (op_box rfl rfl h5) ?_
  rintro _ w9 ⟨b6, rfl, h10⟩
  replace h10 : St w0 F0 [boxC b6 162 [.int .u32 a1, .slice A10 r4.1.length c_10, .bool false, .int .i64 0], _, _, _, _, _, _, _, _, _] _ _ := h10
  refine RJ.fin [(0, _), (1, .int .i64 r3.1), (5, .pointer (some ⟨b6, 0, none⟩))] rfl ?_
  refine J.seq (J.region ?_)
  refine RJ.run ttok 1 rfl ?_
  refine RJ.op rfl rfl (op_store ttok 0 rfl h10 rfl rfl rfl rfl rfl rfl rfl) ?_
  intro _ w10 h11
  replace h11 : St w0 F0 [boxC b6 162 [.int .u32 a1, .slice A10 r4.1.length c_10, .bool false, .int .i64 1], _, _, _, _, _, _, _, _, _] _ _ := h11
  refine RJ.fin [(0, _), (1, _), (5, _)] rfl ?_
  refine J.seq ?_
  refine J.heldSt mix (h11.only [0, 1, 1, 1, 2, 2, 2, 2] rfl) ?_
  have h12 := h11.drew
  refine HJ.run ttok rfl [0, 1, 2, 4] rfl ?_
  refine HJ.q (i := 3) rfl rfl rfl rfl rfl rfl (q_load_box ttok 3 (fun w e => e) rfl rfl rfl rfl rfl) ?_
  refine HJ.q (i := 5) rfl rfl rfl rfl rfl rfl (q_load_box ttok 0 (fun w e => e) rfl rfl rfl rfl rfl) ?_
  obtain ⟨⟨p4, p5⟩, H⟩ := guard_t H
  have e2 := elem_A h12.wh (Gives.of 5 rfl own_rd) p4 p5
  refine HJ.q (i := 6) rfl rfl rfl rfl rfl rfl (q_index ttok rfl rfl rfl rfl rfl e2 p4 p5) ?_
  have h13 := (h12.only [5, 1, 0, 0, 0, 0, 0, 0, 0, 0] rfl).both
  refine HJ.op (i := 7) rfl rfl rfl rfl rfl (op_store_eat (ty := (.pair (.int .u32) (.pair (.slice 5 (.int .u8)) (.pair .bool (.int .i64))))) (f := 0) (ix := r3.1) ttok (a1, r4.1, false, 1) rfl h13 rfl p4 p5 rfl rfl rfl rfl rfl rfl hnew_fr) ?_
  intro _ w11 h14
  replace h14 : St w0 F0 [ownC 162 (.pair (.int .u32) (.pair (.slice 5 (.int .u8)) (.pair .bool (.int .i64)))) (r3.2.2.2.1.set r3.1.toNat (a1, r4.1, false, 1)) (.slice A7 (r3.2.2.2.1.set r3.1.toNat (a1, r4.1, false, 1)).length c_7), _, _, _, _, _, _, _, _] _ _ := h14
  refine ⟨⟨[_], h14⟩, ?_⟩
  replace h14 : St w0 F0 [ownC 162 (.pair (.int .u32) (.pair (.slice 5 (.int .u8)) (.pair .bool (.int .i64)))) (r3.2.2.2.1.set r3.1.toNat (a1, r4.1, false, 1)) (.slice A7 (r3.2.2.2.1.set r3.1.toNat (a1, r4.1, false, 1)).length c_7), boxC b6 162 [.int .u32 a1, .slice A10 r4.1.length c_10, .bool false, .int .i64 1], boxC b2 51 [.int .i64 r4.2.2.1, .slice A11 r4.2.2.2.1.length c_11, .int .u64 r4.2.2.2.2.1, .int .u64 r4.2.2.2.2.2], ownC 5 (.int .u8) r4.2.2.2.1 (.slice A11 r4.2.2.2.1.length c_11), boxC b1 113 [.pointer (some ⟨b2, 0, none⟩), .slice A7 (r3.2.2.2.1.set r3.1.toNat (a1, r4.1, false, 1)).length c_7, .map (some b3), .slice A8 r3.2.2.2.2.2.1.length c_8, .pointer (some ⟨b4, 0, none⟩)], mapC .u32 (Value.int .i64) b3 r3.2.2.2.2.1, ownC 3 (.int .i64) r3.2.2.2.2.2.1 (.slice A8 r3.2.2.2.2.2.1.length c_8), boxC b4 203 [.slice A9 r3.2.2.2.2.2.2.1.length c_9, .int .i64 r3.2.2.2.2.2.2.2], ownC 205 (.pair (.int .i64) (.pair (.int .i64) .bool)) r3.2.2.2.2.2.2.1 (.slice A9 r3.2.2.2.2.2.2.1.length c_9)] _ _ := h14.retell (by simp only [List.length_set])
  refine HJ.fin [(0, _), (1, _), (5, _)] rfl rfl ?_
  refine J.seq ?_
  refine J.heldSt mix (h14.only [0, 0, 0, 0, 0, 1, 1, 1] rfl) ?_
  have h15 := h14.drew
  refine HJ.run ttok rfl [0, 1, 2, 4, 6] rfl ?_
  refine HJ.q (i := 3) rfl rfl rfl rfl rfl rfl (q_load_box ttok 4 (fun w e => e) rfl rfl rfl rfl rfl) ?_
  refine HJ.q (i := 5) rfl rfl rfl rfl rfl rfl (q_load_box ttok 1 (fun w e => e) rfl rfl rfl rfl rfl) ?_
  refine HJ.op (i := 7) rfl rfl rfl rfl rfl (op_mapupd ttok (v := r3.1) (ix := a1) 5 rfl h15 rfl rfl rfl rfl rfl rfl rfl rfl rfl) ?_
  intro _ w12 h16
  replace h16 : St w0 F0 [mapC .u32 (Value.int .i64) b3 (mput a1 r3.1 r3.2.2.2.2.1), _, _, _, _, boxC b1 113 [.pointer (some ⟨b2, 0, none⟩), .slice A7 (r3.2.2.2.1.set r3.1.toNat (a1, r4.1, false, 1)).length c_7, .map (some b3), .slice A8 r3.2.2.2.2.2.1.length c_8, .pointer (some ⟨b4, 0, none⟩)], _, _, _] _ _ := h16
  refine ⟨⟨[_], h16⟩, ?_⟩
  refine HJ.fin [(0, _), (1, _)] rfl rfl ?_
  refine J.region ?_
  refine RJ.run ttok 3 rfl ?_
  refine RJ.q rfl rfl (q_load_box ttok 5 h16.wht rfl rfl rfl rfl rfl) ?_
  refine RJ.run ttok 1 rfl ?_
  obtain ⟨r5, q5, H⟩ := bind_t H
  refine RJ.op rfl rfl (op_call [7, 7] (Q15.spec q5) rfl rfl rfl h16 rfl gnil) ?_
  rintro _ w13 ⟨_, ⟨A13, c_13, rfl, rfl⟩, h17⟩
  replace h17 : St w0 F0 [boxC b4 203 [.slice A13 r5.2.1.length c_13, .int .i64 r5.2.2], ownC 205 (.pair (.int .i64) (.pair (.int .i64) .bool)) r5.2.1 (.slice A13 r5.2.1.length c_13), _, _, _, _, _, _, _] _ _ := h17
  refine RJ.fin [] rfl ?_
  refine ⟨_, results_slots rfl, ?_⟩
  refine RJ.fin [] rfl ?_
  refine J.seq (J.region ?_)
  refine RJ.run ttok 1 rfl ?_
  refine RJ.fin [(4, .int .i64 0)] rfl ?_
  refine J.ret ?_
  obtain rfl := Option.some.inj H
  exact ⟨_, _, _, (results_slots rfl), ⟨_, _, _, _, _, _, _, _, rfl, rfl⟩, h17.only [7, 5, 5, 3, 2, 3, 0, 0] rfl⟩

def Q27.f (a0 : Int × List (Int) × (Int × Int)) : Option (Int) := some a0.1
theorem Q27.spec {a0 : Int × List (Int) × (Int × Int)} {b1 : Nat} {A1 : Option Addr} {c_1 : Nat} {r : Int} (H : Q27.f a0 = some r) :
    Spec Try.prog 25 [.pointer (some ⟨b1, 0, none⟩)] [boxC b1 51 [.int .i64 a0.1, .slice A1 a0.2.1.length c_1, .int .u64 a0.2.2.1, .int .u64 a0.2.2.2], ownC 5 (.int .u8) a0.2.1 (.slice A1 a0.2.1.length c_1)] [] (fun v l => v = .int .i64 r ∧ l = [boxC b1 51 [.int .i64 a0.1, .slice A1 a0.2.1.length c_1, .int .u64 a0.2.2.1, .int .u64 a0.2.2.2], ownC 5 (.int .u8) a0.2.1 (.slice A1 a0.2.1.length c_1)]) := by
  refine Spec.enter Try.func25 rfl (by kernel_rfl) (by kernel_rfl) fun w0 F0 h0 => ?_
  unfold Q27.f at H
  refine J.seq (J.region ?_)
  refine RJ.run ttok 1 rfl ?_
  refine RJ.fin [(0, .pointer (some ⟨b1, 0, none⟩))] rfl ?_
  refine J.seq (J.seq (J.region ?_))
  refine RJ.run ttok 2 rfl ?_
  refine RJ.fin [(0, _), (4, .bool false)] rfl ?_
  refine J.condF rfl ?_
  refine J.skip ?_
  refine J.seq (J.region ?_)
  refine RJ.run ttok 3 rfl ?_
  refine RJ.q rfl rfl (q_load_box ttok 0 h0.wht rfl rfl rfl rfl rfl) ?_
  refine RJ.run ttok 1 rfl ?_
  refine RJ.fin [(2, .int .i64 a0.1)] rfl ?_
  refine J.ret ?_
  obtain rfl := Option.some.inj H
  exact ⟨_, _, _, (results_slots rfl), ⟨rfl, rfl⟩, h0.only [0, 0] rfl⟩

def Q5.f (a0 : (Int × List (Int) × (Int × Int)) × (List (Int × List (Int) × Bool × Int)) × (List (Int × Int)) × List (Int) × ((List (Int × Int × Bool)) × Int)) (a1 : Int) : Option (Int × ((Int × List (Int) × (Int × Int)) × (List (Int × List (Int) × Bool × Int)) × (List (Int × Int)) × List (Int) × ((List (Int × Int × Bool)) × Int))) := (Q14.f ((a0.1.1, a0.1.2.1, (a0.1.2.2.1, a0.1.2.2.2)), a0.2.1, a0.2.2.1, a0.2.2.2.1, (a0.2.2.2.2.1, a0.2.2.2.2.2)) a1).bind fun r1 => (if (!decide (r1 = 0)) = true then (some (r1, ((a0.1.1, a0.1.2.1, (a0.1.2.2.1, a0.1.2.2.2)), a0.2.1, a0.2.2.1, a0.2.2.2.1, (a0.2.2.2.2.1, a0.2.2.2.2.2)))) else (if (mhas a0.2.2.1 a1) = true then (if 0 ≤ (mget (0 : Int) a0.2.2.1 a1) ∧ (mget (0 : Int) a0.2.2.1 a1) < (a0.2.1.length : Int) then (if (decide (0 < ((gt a0.2.1 (mget (0 : Int) a0.2.2.1 a1)).2.2.2))) = true then (some (8, ((a0.1.1, a0.1.2.1, (a0.1.2.2.1, a0.1.2.2.2)), a0.2.1, a0.2.2.1, a0.2.2.2.1, (a0.2.2.2.2.1, a0.2.2.2.2.2)))) else (if (!(mhas a0.2.2.1 a1)) = true then ((Q13.f ((a0.1.1, a0.1.2.1, (a0.1.2.2.1, a0.1.2.2.2)), a0.2.1, a0.2.2.1, a0.2.2.2.1, (a0.2.2.2.2.1, a0.2.2.2.2.2))).bind fun r2 => (if (!r2.2.1) = true then (some (7, ((r2.2.2.1.1, r2.2.2.1.2.1, (r2.2.2.1.2.2.1, r2.2.2.1.2.2.2)), r2.2.2.2.1, r2.2.2.2.2.1, r2.2.2.2.2.2.1, (r2.2.2.2.2.2.2.1, r2.2.2.2.2.2.2.2)))) else ((Q27.f (r2.2.2.1.1, r2.2.2.1.2.1, (r2.2.2.1.2.2.1, r2.2.2.1.2.2.2))).bind fun r3 => (if 0 ≤ r3 ∧ r3 * 1 ≤ 281474976710656 then (if 0 ≤ r2.1 ∧ r2.1 < (r2.2.2.2.1.length : Int) then ((Q15.f (r2.2.2.2.2.2.2.1, r2.2.2.2.2.2.2.2) r2.1).bind fun r4 => (some (0, ((r2.2.2.1.1, r2.2.2.1.2.1, (r2.2.2.1.2.2.1, r2.2.2.1.2.2.2)), (r2.2.2.2.1.set r2.1.toNat (a1, (List.replicate r3.toNat (0 : Int)), true, 1)), (mput a1 r2.1 r2.2.2.2.2.1), r2.2.2.2.2.2.1, (r4.2.1, r4.2.2))))) else none) else none)))) else ((Q27.f (a0.1.1, a0.1.2.1, (a0.1.2.2.1, a0.1.2.2.2))).bind fun r5 => (if 0 ≤ r5 ∧ r5 * 1 ≤ 281474976710656 then ((Q15.f (a0.2.2.2.2.1, a0.2.2.2.2.2) (mget (0 : Int) a0.2.2.1 a1)).bind fun r6 => (some (0, ((a0.1.1, a0.1.2.1, (a0.1.2.2.1, a0.1.2.2.2)), (a0.2.1.set (mget (0 : Int) a0.2.2.1 a1).toNat (a1, (List.replicate r5.toNat (0 : Int)), true, 1)), (mput a1 (mget (0 : Int) a0.2.2.1 a1) a0.2.2.1), a0.2.2.2.1, (r6.2.1, r6.2.2))))) else none)))) else none) else (if (!(mhas a0.2.2.1 a1)) = true then ((Q13.f ((a0.1.1, a0.1.2.1, (a0.1.2.2.1, a0.1.2.2.2)), a0.2.1, a0.2.2.1, a0.2.2.2.1, (a0.2.2.2.2.1, a0.2.2.2.2.2))).bind fun r7 => (if (!r7.2.1) = true then (some (7, ((r7.2.2.1.1, r7.2.2.1.2.1, (r7.2.2.1.2.2.1, r7.2.2.1.2.2.2)), r7.2.2.2.1, r7.2.2.2.2.1, r7.2.2.2.2.2.1, (r7.2.2.2.2.2.2.1, r7.2.2.2.2.2.2.2)))) else ((Q27.f (r7.2.2.1.1, r7.2.2.1.2.1, (r7.2.2.1.2.2.1, r7.2.2.1.2.2.2))).bind fun r8 => (if 0 ≤ r8 ∧ r8 * 1 ≤ 281474976710656 then (if 0 ≤ r7.1 ∧ r7.1 < (r7.2.2.2.1.length : Int) then ((Q15.f (r7.2.2.2.2.2.2.1, r7.2.2.2.2.2.2.2) r7.1).bind fun r9 => (some (0, ((r7.2.2.1.1, r7.2.2.1.2.1, (r7.2.2.1.2.2.1, r7.2.2.1.2.2.2)), (r7.2.2.2.1.set r7.1.toNat (a1, (List.replicate r8.toNat (0 : Int)), true, 1)), (mput a1 r7.1 r7.2.2.2.2.1), r7.2.2.2.2.2.1, (r9.2.1, r9.2.2))))) else none) else none)))) else ((Q27.f (a0.1.1, a0.1.2.1, (a0.1.2.2.1, a0.1.2.2.2))).bind fun r10 => (if 0 ≤ r10 ∧ r10 * 1 ≤ 281474976710656 then (if 0 ≤ (mget (0 : Int) a0.2.2.1 a1) ∧ (mget (0 : Int) a0.2.2.1 a1) < (a0.2.1.length : Int) then ((Q15.f (a0.2.2.2.2.1, a0.2.2.2.2.2) (mget (0 : Int) a0.2.2.1 a1)).bind fun r11 => (some (0, ((a0.1.1, a0.1.2.1, (a0.1.2.2.1, a0.1.2.2.2)), (a0.2.1.set (mget (0 : Int) a0.2.2.1 a1).toNat (a1, (List.replicate r10.toNat (0 : Int)), true, 1)), (mput a1 (mget (0 : Int) a0.2.2.1 a1) a0.2.2.1), a0.2.2.2.1, (r11.2.1, r11.2.2))))) else none) else none)))))
theorem Q5.spec {a0 : (Int × List (Int) × (Int × Int)) × (List (Int × List (Int) × Bool × Int)) × (List (Int × Int)) × List (Int) × ((List (Int × Int × Bool)) × Int)} {a1 : Int} {b1 : Nat} {b2 : Nat} {b3 : Nat} {b4 : Nat} {A1 : Option Addr} {c_1 : Nat} {A2 : Option Addr} {c_2 : Nat} {A3 : Option Addr} {c_3 : Nat} {A4 : Option Addr} {c_4 : Nat} {r : Int × ((Int × List (Int) × (Int × Int)) × (List (Int × List (Int) × Bool × Int)) × (List (Int × Int)) × List (Int) × ((List (Int × Int × Bool)) × Int))} (H : Q5.f a0 a1 = some r) :
    Spec Try.prog 57 [.pointer (some ⟨b1, 0, none⟩), .int .u32 a1] [boxC b1 113 [.pointer (some ⟨b2, 0, none⟩), .slice A2 a0.2.1.length c_2, .map (some b3), .slice A3 a0.2.2.2.1.length c_3, .pointer (some ⟨b4, 0, none⟩)], boxC b2 51 [.int .i64 a0.1.1, .slice A1 a0.1.2.1.length c_1, .int .u64 a0.1.2.2.1, .int .u64 a0.1.2.2.2], ownC 5 (.int .u8) a0.1.2.1 (.slice A1 a0.1.2.1.length c_1), ownC 162 (.pair (.int .u32) (.pair (.slice 5 (.int .u8)) (.pair .bool (.int .i64)))) a0.2.1 (.slice A2 a0.2.1.length c_2), mapC .u32 (Value.int .i64) b3 a0.2.2.1, ownC 3 (.int .i64) a0.2.2.2.1 (.slice A3 a0.2.2.2.1.length c_3), boxC b4 203 [.slice A4 a0.2.2.2.2.1.length c_4, .int .i64 a0.2.2.2.2.2], ownC 205 (.pair (.int .i64) (.pair (.int .i64) .bool)) a0.2.2.2.2.1 (.slice A4 a0.2.2.2.2.1.length c_4)] [] (fun v l => ∃ (A_0 : Option Addr) (c_0 : Nat) (A_1 : Option Addr) (c_1 : Nat) (A_2 : Option Addr) (c_2 : Nat) (A_3 : Option Addr) (c_3 : Nat), v = .int .i64 r.1 ∧ l = [boxC b1 113 [.pointer (some ⟨b2, 0, none⟩), .slice A_1 r.2.2.1.length c_1, .map (some b3), .slice A_2 r.2.2.2.2.1.length c_2, .pointer (some ⟨b4, 0, none⟩)], boxC b2 51 [.int .i64 r.2.1.1, .slice A_0 r.2.1.2.1.length c_0, .int .u64 r.2.1.2.2.1, .int .u64 r.2.1.2.2.2], ownC 5 (.int .u8) r.2.1.2.1 (.slice A_0 r.2.1.2.1.length c_0), ownC 162 (.pair (.int .u32) (.pair (.slice 5 (.int .u8)) (.pair .bool (.int .i64)))) r.2.2.1 (.slice A_1 r.2.2.1.length c_1), mapC .u32 (Value.int .i64) b3 r.2.2.2.1, ownC 3 (.int .i64) r.2.2.2.2.1 (.slice A_2 r.2.2.2.2.1.length c_2), boxC b4 203 [.slice A_3 r.2.2.2.2.2.1.length c_3, .int .i64 r.2.2.2.2.2.2], ownC 205 (.pair (.int .i64) (.pair (.int .i64) .bool)) r.2.2.2.2.2.1 (.slice A_3 r.2.2.2.2.2.1.length c_3)]) := by
  refine Spec.enter Try.func57 rfl (by kernel_rfl) (by kernel_rfl) fun w0 F0 h0 => ?_
  unfold Q5.f at H
  refine J.seq (J.region ?_)
  refine RJ.run ttok 1 rfl ?_
  refine RJ.fin [(0, .pointer (some ⟨b1, 0, none⟩)), (1, .int .u32 a1)] rfl ?_
  refine J.seq (J.seq (J.region ?_))
  refine RJ.run ttok 2 rfl ?_
  obtain ⟨r1, q1, H⟩ := bind_t H
  refine RJ.op rfl rfl (op_call [0, 0, 0, 0, 0, 0, 0, 0] (Q14.spec q1) rfl rfl rfl h0 rfl gnil) ?_
  rintro _ w1 ⟨_, ⟨rfl, rfl⟩, h1⟩
  replace h1 : St w0 F0 [boxC b1 113 [.pointer (some ⟨b2, 0, none⟩), .slice A2 a0.2.1.length c_2, .map (some b3), .slice A3 a0.2.2.2.1.length c_3, .pointer (some ⟨b4, 0, none⟩)], boxC b2 51 [.int .i64 a0.1.1, .slice A1 a0.1.2.1.length c_1, .int .u64 a0.1.2.2.1, .int .u64 a0.1.2.2.2], ownC 5 (.int .u8) a0.1.2.1 (.slice A1 a0.1.2.1.length c_1), ownC 162 (.pair (.int .u32) (.pair (.slice 5 (.int .u8)) (.pair .bool (.int .i64)))) a0.2.1 (.slice A2 a0.2.1.length c_2), mapC .u32 (Value.int .i64) b3 a0.2.2.1, ownC 3 (.int .i64) a0.2.2.2.1 (.slice A3 a0.2.2.2.1.length c_3), boxC b4 203 [.slice A4 a0.2.2.2.2.1.length c_4, .int .i64 a0.2.2.2.2.2], ownC 205 (.pair (.int .i64) (.pair (.int .i64) .bool)) a0.2.2.2.2.1 (.slice A4 a0.2.2.2.2.1.length c_4)] _ _ := h1
  refine RJ.run ttok 1 rfl ?_
  refine RJ.fin [(0, _), (1, _), (5, .int .i64 r1)] rfl ?_
  refine J.seq (J.region ?_)
  refine RJ.run ttok 2 rfl ?_
  refine RJ.fin [(0, _), (1, _), (5, _), (12, .bool (!decide (r1 = 0)))] rfl ?_
  refine J.cond rfl (fun c1 => ?_) (fun c1 => ?_)
  · replace H := ite_t c1 H
    refine J.seq (J.region ?_)
    refine RJ.run ttok 2 rfl ?_
    refine RJ.fin [(4, .int .i64 r1)] rfl ?_
    refine J.ret ?_
    obtain rfl := Option.some.inj H
    exact ⟨_, _, _, (results_slots rfl), ⟨_, _, _, _, _, _, _, _, rfl, rfl⟩, h1.only [0, 0, 0, 0, 0, 0, 0, 0] rfl⟩
  replace H := ite_f c1 H
  refine J.skip ?_
  refine J.seq (J.region ?_)
  refine RJ.run ttok 3 rfl ?_
  refine RJ.q rfl rfl (q_load_box ttok 0 h1.wht rfl rfl rfl rfl rfl) ?_
  refine RJ.run ttok 1 rfl ?_
  refine RJ.q rfl rfl (q_lookup_ok ttok (0 : Int) 4 h1.wht rfl rfl rfl rfl rfl rfl rfl rfl rfl rfl) ?_
  refine RJ.run ttok 5 rfl ?_
  refine RJ.fin [(0, _), (1, _), (6, .int .i64 (mget (0 : Int) a0.2.2.1 a1)), (7, .bool (mhas a0.2.2.1 a1))] rfl ?_
  refine J.seq (J.block (J.seq (J.region ?_)))
  refine RJ.run ttok 2 rfl ?_
  rcases Bool.eq_false_or_eq_true (mhas a0.2.2.1 a1) with c2 | c2
  · replace H := ite_t c2 H
    refine RJ.know (t := 25) rfl (congrArg Value.bool c2) ?_
    refine RJ.run ttok 3 rfl ?_
    refine RJ.q rfl rfl (q_load_box ttok 0 h1.wht rfl rfl rfl rfl rfl) ?_
    refine RJ.run ttok 1 rfl ?_
    obtain ⟨⟨p1, p2⟩, H⟩ := guard_t H
    have e1 := elem_A h1.wh (Gives.of 3 rfl own_rd) p1 p2
    refine RJ.q rfl rfl (q_index ttok rfl rfl rfl rfl rfl e1 p1 p2) ?_
    refine RJ.run ttok 1 rfl ?_
    refine RJ.q rfl rfl (q_load_deep (f := 3) ttok h1.wht (Gives.of 3 rfl own_rd) p1 p2 rfl rfl rfl rfl rfl rfl) ?_
    refine RJ.run ttok 3 rfl ?_
    refine RJ.fin [(0, _), (1, _), (6, _), (7, _), (23, .bool (decide (0 < ((gt a0.2.1 (mget (0 : Int) a0.2.2.1 a1)).2.2.2))))] rfl ?_
    refine J.cond rfl (fun c3 => ?_) (fun c3 => ?_)
    · replace H := ite_t c3 H
      refine J.seq (J.region ?_)
      refine RJ.run ttok 1 rfl ?_
      refine RJ.fin [(4, .int .i64 8)] rfl ?_
      refine J.ret ?_
      obtain rfl := Option.some.inj H
      exact ⟨_, _, _, (results_slots rfl), ⟨_, _, _, _, _, _, _, _, rfl, rfl⟩, h1.only [0, 0, 0, 0, 0, 0, 0, 0] rfl⟩
    replace H := ite_f c3 H
    refine J.seq (J.region ?_)
    refine RJ.run ttok 3 rfl ?_
    refine RJ.fin [(0, _), (1, _), (6, _), (36, .bool (!(mhas a0.2.2.1 a1)))] rfl ?_
    refine J.cond rfl (fun c4 => ?_) (fun c4 => ?_)
    · replace H := ite_t c4 H
      refine J.seq (J.region ?_)
      refine RJ.run ttok 1 rfl ?_
      obtain ⟨r2, q2, H⟩ := bind_t H
      refine RJ.op rfl rfl (op_call [0, 0, 0, 0, 0, 0, 0, 0] (Q13.spec q2) rfl rfl rfl h1 rfl gnil) ?_
      rintro _ w2 ⟨_, ⟨A5, c_5, A6, c_6, A7, c_7, A8, c_8, rfl, rfl⟩, h2⟩
      replace h2 : St w0 F0 [boxC b1 113 [.pointer (some ⟨b2, 0, none⟩), .slice A6 r2.2.2.2.1.length c_6, .map (some b3), .slice A7 r2.2.2.2.2.2.1.length c_7, .pointer (some ⟨b4, 0, none⟩)], boxC b2 51 [.int .i64 r2.2.2.1.1, .slice A5 r2.2.2.1.2.1.length c_5, .int .u64 r2.2.2.1.2.2.1, .int .u64 r2.2.2.1.2.2.2], ownC 5 (.int .u8) r2.2.2.1.2.1 (.slice A5 r2.2.2.1.2.1.length c_5), ownC 162 (.pair (.int .u32) (.pair (.slice 5 (.int .u8)) (.pair .bool (.int .i64)))) r2.2.2.2.1 (.slice A6 r2.2.2.2.1.length c_6), mapC .u32 (Value.int .i64) b3 r2.2.2.2.2.1, ownC 3 (.int .i64) r2.2.2.2.2.2.1 (.slice A7 r2.2.2.2.2.2.1.length c_7), boxC b4 203 [.slice A8 r2.2.2.2.2.2.2.1.length c_8, .int .i64 r2.2.2.2.2.2.2.2], ownC 205 (.pair (.int .i64) (.pair (.int .i64) .bool)) r2.2.2.2.2.2.2.1 (.slice A8 r2.2.2.2.2.2.2.1.length c_8)] _ _ := h2
      refine RJ.run ttok 5 rfl ?_
      refine RJ.fin [(0, _), (1, _), (6, .int .i64 r2.1), (7, .bool r2.2.1)] rfl ?_
      refine J.seq (J.region ?_)
      refine RJ.run ttok 2 rfl ?_
      refine RJ.fin [(0, _), (1, _), (6, _), (45, .bool (!r2.2.1))] rfl ?_
      refine J.cond rfl (fun c5 => ?_) (fun c5 => ?_)
      · replace H := ite_t c5 H
        refine J.seq (J.region ?_)
        refine RJ.run ttok 1 rfl ?_
        refine RJ.fin [(4, .int .i64 7)] rfl ?_
        refine J.ret ?_
        obtain rfl := Option.some.inj H
        exact ⟨_, _, _, (results_slots rfl), ⟨_, _, _, _, _, _, _, _, rfl, rfl⟩, h2.only [0, 0, 0, 0, 0, 0, 0, 0] rfl⟩
      replace H := ite_f c5 H
      refine J.skip ?_
      refine J.seq (J.region ?_)
      refine RJ.run ttok 6 rfl ?_
      refine RJ.q rfl rfl (q_load_box ttok 0 h2.wht rfl rfl rfl rfl rfl) ?_
      obtain ⟨r3, q3, H⟩ := bind_t H
      refine RJ.op rfl rfl (op_call [1, 1] (Q27.spec q3) rfl rfl rfl h2 rfl gnil) ?_
      rintro _ w3 ⟨_, ⟨rfl, rfl⟩, h3⟩
      replace h3 : St w0 F0 [_, _, _, _, _, _, _, _] _ _ := h3
      obtain ⟨⟨p3, p4⟩, H⟩ := guard_t H
      refine RJ.op rfl rfl (op_make ttok (ty := (.int .u8)) rfl (0 : Int) rfl rfl rfl rfl rfl rfl rfl (by decide) h3 p3 p4) ?_
      rintro _ w4 ⟨b5, rfl, h4⟩
      replace h4 : St w0 F0 [ownC 5 (.int .u8) (List.replicate r3.toNat (0 : Int)) (.slice (some ⟨b5, 0, none⟩) (List.replicate r3.toNat (0 : Int)).length (r3.toNat)), _, _, _, _, _, _, _, _] _ _ := h4
      refine RJ.run ttok 1 rfl ?_
      refine RJ.inline rfl rfl rfl rfl rfl Try.func106 rfl (by kernel_rfl) (by kernel_rfl) ?_
      refine J.seq (J.region ?_)
      refine RJ.op rfl rfl (op_box rfl rfl h4) ?_
      rintro _ w5 ⟨b6, rfl, h5⟩
      replace h5 : St w0 F0 [boxC b6 162 [.int .u32 a1, .slice (some ⟨b5, 0, none⟩) (List.replicate r3.toNat (0 : Int)).length (r3.toNat), .bool true, .int .i64 0], _, _, _, _, _, _, _, _, _] _ _ := h5
      refine RJ.fin [(0, _), (1, .int .i64 r2.1), (5, .pointer (some ⟨b6, 0, none⟩))] rfl ?_
      refine J.seq (J.region ?_)
      refine RJ.run ttok 1 rfl ?_
      refine RJ.op rfl rfl (op_store ttok 0 rfl h5 rfl rfl rfl rfl rfl rfl rfl) ?_
      intro _ w6 h6
      replace h6 : St w0 F0 [boxC b6 162 [.int .u32 a1, .slice (some ⟨b5, 0, none⟩) (List.replicate r3.toNat (0 : Int)).length (r3.toNat), .bool true, .int .i64 1], _, _, _, _, _, _, _, _, _] _ _ := h6
      refine RJ.fin [(0, _), (1, _), (5, _)] rfl ?_
      refine J.seq ?_
      refine J.heldSt mix (h6.only [0, 1, 1, 1, 2, 2, 2, 2] rfl) ?_
      have h7 := h6.drew
      refine HJ.run ttok rfl [0, 1, 2, 4] rfl ?_
      refine HJ.q (i := 3) rfl rfl rfl rfl rfl rfl (q_load_box ttok 3 (fun w e => e) rfl rfl rfl rfl rfl) ?_
      refine HJ.q (i := 5) rfl rfl rfl rfl rfl rfl (q_load_box ttok 0 (fun w e => e) rfl rfl rfl rfl rfl) ?_
      obtain ⟨⟨p5, p6⟩, H⟩ := guard_t H
      have e2 := elem_A h7.wh (Gives.of 5 rfl own_rd) p5 p6
      refine HJ.q (i := 6) rfl rfl rfl rfl rfl rfl (q_index ttok rfl rfl rfl rfl rfl e2 p5 p6) ?_
      have h8 := (h7.only [5, 1, 0, 0, 0, 0, 0, 0, 0, 0] rfl).both
      refine HJ.op (i := 7) rfl rfl rfl rfl rfl (op_store_eat (ty := (.pair (.int .u32) (.pair (.slice 5 (.int .u8)) (.pair .bool (.int .i64))))) (f := 0) (ix := r2.1) ttok (a1, (List.replicate r3.toNat (0 : Int)), true, 1) rfl h8 rfl p5 p6 rfl rfl rfl rfl rfl rfl hnew_fr) ?_
      intro _ w7 h9
      replace h9 : St w0 F0 [ownC 162 (.pair (.int .u32) (.pair (.slice 5 (.int .u8)) (.pair .bool (.int .i64)))) (r2.2.2.2.1.set r2.1.toNat (a1, (List.replicate r3.toNat (0 : Int)), true, 1)) (.slice A6 (r2.2.2.2.1.set r2.1.toNat (a1, (List.replicate r3.toNat (0 : Int)), true, 1)).length c_6), _, _, _, _, _, _, _, _] _ _ := h9
      refine ⟨⟨[_], h9⟩, ?_⟩
      replace h9 : St w0 F0 [ownC 162 (.pair (.int .u32) (.pair (.slice 5 (.int .u8)) (.pair .bool (.int .i64)))) (r2.2.2.2.1.set r2.1.toNat (a1, (List.replicate r3.toNat (0 : Int)), true, 1)) (.slice A6 (r2.2.2.2.1.set r2.1.toNat (a1, (List.replicate r3.toNat (0 : Int)), true, 1)).length c_6), boxC b6 162 [.int .u32 a1, .slice (some ⟨b5, 0, none⟩) (List.replicate r3.toNat (0 : Int)).length (r3.toNat), .bool true, .int .i64 1], boxC b2 51 [.int .i64 r2.2.2.1.1, .slice A5 r2.2.2.1.2.1.length c_5, .int .u64 r2.2.2.1.2.2.1, .int .u64 r2.2.2.1.2.2.2], ownC 5 (.int .u8) r2.2.2.1.2.1 (.slice A5 r2.2.2.1.2.1.length c_5), boxC b1 113 [.pointer (some ⟨b2, 0, none⟩), .slice A6 (r2.2.2.2.1.set r2.1.toNat (a1, (List.replicate r3.toNat (0 : Int)), true, 1)).length c_6, .map (some b3), .slice A7 r2.2.2.2.2.2.1.length c_7, .pointer (some ⟨b4, 0, none⟩)], mapC .u32 (Value.int .i64) b3 r2.2.2.2.2.1, ownC 3 (.int .i64) r2.2.2.2.2.2.1 (.slice A7 r2.2.2.2.2.2.1.length c_7), boxC b4 203 [.slice A8 r2.2.2.2.2.2.2.1.length c_8, .int .i64 r2.2.2.2.2.2.2.2], ownC 205 (.pair (.int .i64) (.pair (.int .i64) .bool)) r2.2.2.2.2.2.2.1 (.slice A8 r2.2.2.2.2.2.2.1.length c_8)] _ _ := h9.retell (by simp only [List.length_set])
      refine HJ.fin [(0, _), (1, _), (5, _)] rfl rfl ?_
      refine J.seq ?_
      refine J.heldSt mix (h9.only [0, 0, 0, 0, 0, 1, 1, 1] rfl) ?_
      have h10 := h9.drew
      refine HJ.run ttok rfl [0, 1, 2, 4, 6] rfl ?_
      refine HJ.q (i := 3) rfl rfl rfl rfl rfl rfl (q_load_box ttok 4 (fun w e => e) rfl rfl rfl rfl rfl) ?_
      refine HJ.q (i := 5) rfl rfl rfl rfl rfl rfl (q_load_box ttok 1 (fun w e => e) rfl rfl rfl rfl rfl) ?_
      refine HJ.op (i := 7) rfl rfl rfl rfl rfl (op_mapupd ttok (v := r2.1) (ix := a1) 5 rfl h10 rfl rfl rfl rfl rfl rfl rfl rfl rfl) ?_
      intro _ w8 h11
      replace h11 : St w0 F0 [mapC .u32 (Value.int .i64) b3 (mput a1 r2.1 r2.2.2.2.2.1), _, _, _, _, boxC b1 113 [.pointer (some ⟨b2, 0, none⟩), .slice A6 (r2.2.2.2.1.set r2.1.toNat (a1, (List.replicate r3.toNat (0 : Int)), true, 1)).length c_6, .map (some b3), .slice A7 r2.2.2.2.2.2.1.length c_7, .pointer (some ⟨b4, 0, none⟩)], _, _, _] _ _ := h11
      refine ⟨⟨[_], h11⟩, ?_⟩
      refine HJ.fin [(0, _), (1, _)] rfl rfl ?_
      refine J.region ?_
      refine RJ.run ttok 3 rfl ?_
      refine RJ.q rfl rfl (q_load_box ttok 5 h11.wht rfl rfl rfl rfl rfl) ?_
      refine RJ.run ttok 1 rfl ?_
      obtain ⟨r4, q4, H⟩ := bind_t H
      refine RJ.op rfl rfl (op_call [7, 7] (Q15.spec q4) rfl rfl rfl h11 rfl gnil) ?_
      rintro _ w9 ⟨_, ⟨A9, c_9, rfl, rfl⟩, h12⟩
      replace h12 : St w0 F0 [boxC b4 203 [.slice A9 r4.2.1.length c_9, .int .i64 r4.2.2], ownC 205 (.pair (.int .i64) (.pair (.int .i64) .bool)) r4.2.1 (.slice A9 r4.2.1.length c_9), _, _, _, _, _, _, _] _ _ := h12
      refine RJ.fin [] rfl ?_
      refine ⟨_, results_slots rfl, ?_⟩
      refine RJ.fin [] rfl ?_
      refine J.seq (J.region ?_)
      refine RJ.run ttok 1 rfl ?_
      refine RJ.fin [(4, .int .i64 0)] rfl ?_
      refine J.ret ?_
      obtain rfl := Option.some.inj H
      exact ⟨_, _, _, (results_slots rfl), ⟨_, _, _, _, _, _, _, _, rfl, rfl⟩, h12.only [7, 5, 5, 3, 2, 3, 0, 0] rfl⟩
    replace H := ite_f c4 H
    refine J.skip ?_
    refine J.seq (J.region ?_)
    refine RJ.run ttok 6 rfl ?_
    refine RJ.q rfl rfl (q_load_box ttok 0 h1.wht rfl rfl rfl rfl rfl) ?_
    obtain ⟨r5, q5, H⟩ := bind_t H
    refine RJ.op rfl rfl (op_call [1, 1] (Q27.spec q5) rfl rfl rfl h1 rfl gnil) ?_
    rintro _ w10 ⟨_, ⟨rfl, rfl⟩, h13⟩
    replace h13 : St w0 F0 [_, _, _, _, _, _, _, _] _ _ := h13
    obtain ⟨⟨p7, p8⟩, H⟩ := guard_t H
    refine RJ.op rfl rfl (op_make ttok (ty := (.int .u8)) rfl (0 : Int) rfl rfl rfl rfl rfl rfl rfl (by decide) h13 p7 p8) ?_
    rintro _ w11 ⟨b7, rfl, h14⟩
    replace h14 : St w0 F0 [ownC 5 (.int .u8) (List.replicate r5.toNat (0 : Int)) (.slice (some ⟨b7, 0, none⟩) (List.replicate r5.toNat (0 : Int)).length (r5.toNat)), _, _, _, _, _, _, _, _] _ _ := h14
    refine RJ.run ttok 1 rfl ?_
    refine RJ.inline rfl rfl rfl rfl rfl Try.func106 rfl (by kernel_rfl) (by kernel_rfl) ?_
    refine J.seq (J.region ?_)
    refine RJ.op rfl rfl (op_box rfl rfl h14) ?_
    rintro _ w12 ⟨b8, rfl, h15⟩
    replace h15 : St w0 F0 [boxC b8 162 [.int .u32 a1, .slice (some ⟨b7, 0, none⟩) (List.replicate r5.toNat (0 : Int)).length (r5.toNat), .bool true, .int .i64 0], _, _, _, _, _, _, _, _, _] _ _ := h15
    refine RJ.fin [(0, _), (1, .int .i64 (mget (0 : Int) a0.2.2.1 a1)), (5, .pointer (some ⟨b8, 0, none⟩))] rfl ?_
    refine J.seq (J.region ?_)
    refine RJ.run ttok 1 rfl ?_
    refine RJ.op rfl rfl (op_store ttok 0 rfl h15 rfl rfl rfl rfl rfl rfl rfl) ?_
    intro _ w13 h16
    replace h16 : St w0 F0 [boxC b8 162 [.int .u32 a1, .slice (some ⟨b7, 0, none⟩) (List.replicate r5.toNat (0 : Int)).length (r5.toNat), .bool true, .int .i64 1], _, _, _, _, _, _, _, _, _] _ _ := h16
    refine RJ.fin [(0, _), (1, _), (5, _)] rfl ?_
    refine J.seq ?_
    refine J.heldSt mix (h16.only [0, 1, 1, 1, 2, 2, 2, 2] rfl) ?_
    have h17 := h16.drew
    refine HJ.run ttok rfl [0, 1, 2, 4] rfl ?_
    refine HJ.q (i := 3) rfl rfl rfl rfl rfl rfl (q_load_box ttok 3 (fun w e => e) rfl rfl rfl rfl rfl) ?_
    refine HJ.q (i := 5) rfl rfl rfl rfl rfl rfl (q_load_box ttok 0 (fun w e => e) rfl rfl rfl rfl rfl) ?_
    refine HJ.q (i := 6) rfl rfl rfl rfl rfl rfl (q_index ttok rfl rfl rfl rfl rfl e1 p1 p2) ?_
    have h18 := (h17.only [5, 1, 0, 0, 0, 0, 0, 0, 0, 0] rfl).both
    refine HJ.op (i := 7) rfl rfl rfl rfl rfl (op_store_eat (ty := (.pair (.int .u32) (.pair (.slice 5 (.int .u8)) (.pair .bool (.int .i64))))) (f := 0) (ix := (mget (0 : Int) a0.2.2.1 a1)) ttok (a1, (List.replicate r5.toNat (0 : Int)), true, 1) rfl h18 rfl p1 p2 rfl rfl rfl rfl rfl rfl hnew_fr) ?_
    intro _ w14 h19
    replace h19 : St w0 F0 [ownC 162 (.pair (.int .u32) (.pair (.slice 5 (.int .u8)) (.pair .bool (.int .i64)))) (a0.2.1.set (mget (0 : Int) a0.2.2.1 a1).toNat (a1, (List.replicate r5.toNat (0 : Int)), true, 1)) (.slice A2 (a0.2.1.set (mget (0 : Int) a0.2.2.1 a1).toNat (a1, (List.replicate r5.toNat (0 : Int)), true, 1)).length c_2), _, _, _, _, _, _, _, _] _ _ := h19
    refine ⟨⟨[_], h19⟩, ?_⟩
    replace h19 : St w0 F0 [ownC 162 (.pair (.int .u32) (.pair (.slice 5 (.int .u8)) (.pair .bool (.int .i64)))) (a0.2.1.set (mget (0 : Int) a0.2.2.1 a1).toNat (a1, (List.replicate r5.toNat (0 : Int)), true, 1)) (.slice A2 (a0.2.1.set (mget (0 : Int) a0.2.2.1 a1).toNat (a1, (List.replicate r5.toNat (0 : Int)), true, 1)).length c_2), boxC b8 162 [.int .u32 a1, .slice (some ⟨b7, 0, none⟩) (List.replicate r5.toNat (0 : Int)).length (r5.toNat), .bool true, .int .i64 1], boxC b2 51 [.int .i64 a0.1.1, .slice A1 a0.1.2.1.length c_1, .int .u64 a0.1.2.2.1, .int .u64 a0.1.2.2.2], ownC 5 (.int .u8) a0.1.2.1 (.slice A1 a0.1.2.1.length c_1), boxC b1 113 [.pointer (some ⟨b2, 0, none⟩), .slice A2 (a0.2.1.set (mget (0 : Int) a0.2.2.1 a1).toNat (a1, (List.replicate r5.toNat (0 : Int)), true, 1)).length c_2, .map (some b3), .slice A3 a0.2.2.2.1.length c_3, .pointer (some ⟨b4, 0, none⟩)], mapC .u32 (Value.int .i64) b3 a0.2.2.1, ownC 3 (.int .i64) a0.2.2.2.1 (.slice A3 a0.2.2.2.1.length c_3), boxC b4 203 [.slice A4 a0.2.2.2.2.1.length c_4, .int .i64 a0.2.2.2.2.2], ownC 205 (.pair (.int .i64) (.pair (.int .i64) .bool)) a0.2.2.2.2.1 (.slice A4 a0.2.2.2.2.1.length c_4)] _ _ := h19.retell (by simp only [List.length_set])
    refine HJ.fin [(0, _), (1, _), (5, _)] rfl rfl ?_
    refine J.seq ?_
    refine J.heldSt mix (h19.only [0, 0, 0, 0, 0, 1, 1, 1] rfl) ?_
    have h20 := h19.drew
    refine HJ.run ttok rfl [0, 1, 2, 4, 6] rfl ?_
    refine HJ.q (i := 3) rfl rfl rfl rfl rfl rfl (q_load_box ttok 4 (fun w e => e) rfl rfl rfl rfl rfl) ?_
    refine HJ.q (i := 5) rfl rfl rfl rfl rfl rfl (q_load_box ttok 1 (fun w e => e) rfl rfl rfl rfl rfl) ?_
    refine HJ.op (i := 7) rfl rfl rfl rfl rfl (op_mapupd ttok (v := (mget (0 : Int) a0.2.2.1 a1)) (ix := a1) 5 rfl h20 rfl rfl rfl rfl rfl rfl rfl rfl rfl) ?_
    intro _ w15 h21
    replace h21 : St w0 F0 [mapC .u32 (Value.int .i64) b3 (mput a1 (mget (0 : Int) a0.2.2.1 a1) a0.2.2.1), _, _, _, _, boxC b1 113 [.pointer (some ⟨b2, 0, none⟩), .slice A2 (a0.2.1.set (mget (0 : Int) a0.2.2.1 a1).toNat (a1, (List.replicate r5.toNat (0 : Int)), true, 1)).length c_2, .map (some b3), .slice A3 a0.2.2.2.1.length c_3, .pointer (some ⟨b4, 0, none⟩)], _, _, _] _ _ := h21
    refine ⟨⟨[_], h21⟩, ?_⟩
    refine HJ.fin [(0, _), (1, _)] rfl rfl ?_
    refine J.region ?_
    refine RJ.run ttok 3 rfl ?_
    refine RJ.q rfl rfl (q_load_box ttok 5 h21.wht rfl rfl rfl rfl rfl) ?_
    refine RJ.run ttok 1 rfl ?_
    obtain ⟨r6, q6, H⟩ := bind_t H
    refine RJ.op rfl rfl (op_call [7, 7] (Q15.spec q6) rfl rfl rfl h21 rfl gnil) ?_
    rintro _ w16 ⟨_, ⟨A10, c_10, rfl, rfl⟩, h22⟩
    replace h22 : St w0 F0 [boxC b4 203 [.slice A10 r6.2.1.length c_10, .int .i64 r6.2.2], ownC 205 (.pair (.int .i64) (.pair (.int .i64) .bool)) r6.2.1 (.slice A10 r6.2.1.length c_10), _, _, _, _, _, _, _] _ _ := h22
    refine RJ.fin [] rfl ?_
    refine ⟨_, results_slots rfl, ?_⟩
    refine RJ.fin [] rfl ?_
    refine J.seq (J.region ?_)
    refine RJ.run ttok 1 rfl ?_
    refine RJ.fin [(4, .int .i64 0)] rfl ?_
    refine J.ret ?_
    obtain rfl := Option.some.inj H
    exact ⟨_, _, _, (results_slots rfl), ⟨_, _, _, _, _, _, _, _, rfl, rfl⟩, h22.only [7, 5, 5, 3, 2, 3, 0, 0] rfl⟩
  replace H := ite_f c2 H
  refine RJ.know (t := 25) rfl (congrArg Value.bool c2) ?_
  refine RJ.run ttok 11 rfl ?_
  refine RJ.fin [(0, _), (1, _), (6, _), (7, _), (23, .bool false)] rfl ?_
  refine J.condF rfl ?_
  refine J.seq (J.region ?_)
  refine RJ.run ttok 3 rfl ?_
  refine RJ.fin [(0, _), (1, _), (6, _), (36, .bool (!(mhas a0.2.2.1 a1)))] rfl ?_
  refine J.cond rfl (fun c6 => ?_) (fun c6 => ?_)
  · replace H := ite_t c6 H
    refine J.seq (J.region ?_)
    refine RJ.run ttok 1 rfl ?_
    obtain ⟨r7, q7, H⟩ := bind_t H
    refine RJ.op rfl rfl (op_call [0, 0, 0, 0, 0, 0, 0, 0] (Q13.spec q7) rfl rfl rfl h1 rfl gnil) ?_
    rintro _ w17 ⟨_, ⟨A11, c_11, A12, c_12, A13, c_13, A14, c_14, rfl, rfl⟩, h23⟩
    replace h23 : St w0 F0 [boxC b1 113 [.pointer (some ⟨b2, 0, none⟩), .slice A12 r7.2.2.2.1.length c_12, .map (some b3), .slice A13 r7.2.2.2.2.2.1.length c_13, .pointer (some ⟨b4, 0, none⟩)], boxC b2 51 [.int .i64 r7.2.2.1.1, .slice A11 r7.2.2.1.2.1.length c_11, .int .u64 r7.2.2.1.2.2.1, .int .u64 r7.2.2.1.2.2.2], ownC 5 (.int .u8) r7.2.2.1.2.1 (.slice A11 r7.2.2.1.2.1.length c_11), ownC 162 (.pair (.int .u32) (.pair (.slice 5 (.int .u8)) (.pair .bool (.int .i64)))) r7.2.2.2.1 (.slice A12 r7.2.2.2.1.length c_12), mapC .u32 (Value.int .i64) b3 r7.2.2.2.2.1, ownC 3 (.int .i64) r7.2.2.2.2.2.1 (.slice A13 r7.2.2.2.2.2.1.length c_13), boxC b4 203 [.slice A14 r7.2.2.2.2.2.2.1.length c_14, .int .i64 r7.2.2.2.2.2.2.2], ownC 205 (.pair (.int .i64) (.pair (.int .i64) .bool)) r7.2.2.2.2.2.2.1 (.slice A14 r7.2.2.2.2.2.2.1.length c_14)] _ _ := h23
    refine RJ.run ttok 5 rfl ?_
    refine RJ.fin [(0, _), (1, _), (6, .int .i64 r7.1), (7, .bool r7.2.1)] rfl ?_
    refine J.seq (J.region ?_)
    refine RJ.run ttok 2 rfl ?_
    refine RJ.fin [(0, _), (1, _), (6, _), (45, .bool (!r7.2.1))] rfl ?_
    refine J.cond rfl (fun c7 => ?_) (fun c7 => ?_)
    · replace H := ite_t c7 H
      refine J.seq (J.region ?_)
      refine RJ.run ttok 1 rfl ?_
      refine RJ.fin [(4, .int .i64 7)] rfl ?_
      refine J.ret ?_
      obtain rfl := Option.some.inj H
      exact ⟨_, _, _, (results_slots rfl), ⟨_, _, _, _, _, _, _, _, rfl, rfl⟩, h23.only [0, 0, 0, 0, 0, 0, 0, 0] rfl⟩
    replace H := ite_f c7 H
    refine J.skip ?_
    refine J.seq (J.region ?_)
    refine RJ.run ttok 6 rfl ?_
    refine RJ.q rfl rfl (q_load_box ttok 0 h23.wht rfl rfl rfl rfl rfl) ?_
    obtain ⟨r8, q8, H⟩ := bind_t H
    refine RJ.op rfl rfl (op_call [1, 1] (Q27.spec q8) rfl rfl rfl h23 rfl gnil) ?_
    rintro _ w18 ⟨_, ⟨rfl, rfl⟩, h24⟩
    replace h24 : St w0 F0 [_, _, _, _, _, _, _, _] _ _ := h24
    obtain ⟨⟨p9, p10⟩, H⟩ := guard_t H
    refine RJ.op rfl rfl (op_make ttok (ty := (.int .u8)) rfl (0 : Int) rfl rfl rfl rfl rfl rfl rfl (by decide) h24 p9 p10) ?_
    rintro _ w19 ⟨b9, rfl, h25⟩
    replace h25 : St w0 F0 [ownC 5 (.int .u8) (List.replicate r8.toNat (0 : Int)) (.slice (some ⟨b9, 0, none⟩) (List.replicate r8.toNat (0 : Int)).length (r8.toNat)), _, _, _, _, _, _, _, _] _ _ := h25
    refine RJ.run ttok 1 rfl ?_
    refine RJ.inline rfl rfl rfl rfl rfl Try.func106 rfl (by kernel_rfl) (by kernel_rfl) ?_
    refine J.seq (J.region ?_)
    refine RJ.op rfl rfl (op_box rfl rfl h25) ?_
    rintro _ w20 ⟨b10, rfl, h26⟩
    replace h26 : St w0 F0 [boxC b10 162 [.int .u32 a1, .slice (some ⟨b9, 0, none⟩) (List.replicate r8.toNat (0 : Int)).length (r8.toNat), .bool true, .int .i64 0], _, _, _, _, _, _, _, _, _] _ _ := h26
    refine RJ.fin [(0, _), (1, .int .i64 r7.1), (5, .pointer (some ⟨b10, 0, none⟩))] rfl ?_
    refine J.seq (J.region ?_)
    refine RJ.run ttok 1 rfl ?_
    refine RJ.op rfl rfl (op_store ttok 0 rfl h26 rfl rfl rfl rfl rfl rfl rfl) ?_
    intro _ w21 h27
    replace h27 : St w0 F0 [boxC b10 162 [.int .u32 a1, .slice (some ⟨b9, 0, none⟩) (List.replicate r8.toNat (0 : Int)).length (r8.toNat), .bool true, .int .i64 1], _, _, _, _, _, _, _, _, _] _ _ := h27
    refine RJ.fin [(0, _), (1, _), (5, _)] rfl ?_
    refine J.seq ?_
    refine J.heldSt mix (h27.only [0, 1, 1, 1, 2, 2, 2, 2] rfl) ?_
    have h28 := h27.drew
    refine HJ.run ttok rfl [0, 1, 2, 4] rfl ?_
    refine HJ.q (i := 3) rfl rfl rfl rfl rfl rfl (q_load_box ttok 3 (fun w e => e) rfl rfl rfl rfl rfl) ?_
    refine HJ.q (i := 5) rfl rfl rfl rfl rfl rfl (q_load_box ttok 0 (fun w e => e) rfl rfl rfl rfl rfl) ?_
    obtain ⟨⟨p11, p12⟩, H⟩ := guard_t H
    have e3 := elem_A h28.wh (Gives.of 5 rfl own_rd) p11 p12
    refine HJ.q (i := 6) rfl rfl rfl rfl rfl rfl (q_index ttok rfl rfl rfl rfl rfl e3 p11 p12) ?_
    have h29 := (h28.only [5, 1, 0, 0, 0, 0, 0, 0, 0, 0] rfl).both
    refine HJ.op (i := 7) rfl rfl rfl rfl rfl (op_store_eat (ty := (.pair (.int .u32) (.pair (.slice 5 (.int .u8)) (.pair .bool (.int .i64))))) (f := 0) (ix := r7.1) ttok (a1, (List.replicate r8.toNat (0 : Int)), true, 1) rfl h29 rfl p11 p12 rfl rfl rfl rfl rfl rfl hnew_fr) ?_
    intro _ w22 h30
    replace h30 : St w0 F0 [ownC 162 (.pair (.int .u32) (.pair (.slice 5 (.int .u8)) (.pair .bool (.int .i64)))) (r7.2.2.2.1.set r7.1.toNat (a1, (List.replicate r8.toNat (0 : Int)), true, 1)) (.slice A12 (r7.2.2.2.1.set r7.1.toNat (a1, (List.replicate r8.toNat (0 : Int)), true, 1)).length c_12), _, _, _, _, _, _, _, _] _ _ := h30
    refine ⟨⟨[_], h30⟩, ?_⟩
    replace h30 : St w0 F0 [ownC 162 (.pair (.int .u32) (.pair (.slice 5 (.int .u8)) (.pair .bool (.int .i64)))) (r7.2.2.2.1.set r7.1.toNat (a1, (List.replicate r8.toNat (0 : Int)), true, 1)) (.slice A12 (r7.2.2.2.1.set r7.1.toNat (a1, (List.replicate r8.toNat (0 : Int)), true, 1)).length c_12), boxC b10 162 [.int .u32 a1, .slice (some ⟨b9, 0, none⟩) (List.replicate r8.toNat (0 : Int)).length (r8.toNat), .bool true, .int .i64 1], boxC b2 51 [.int .i64 r7.2.2.1.1, .slice A11 r7.2.2.1.2.1.length c_11, .int .u64 r7.2.2.1.2.2.1, .int .u64 r7.2.2.1.2.2.2], ownC 5 (.int .u8) r7.2.2.1.2.1 (.slice A11 r7.2.2.1.2.1.length c_11), boxC b1 113 [.pointer (some ⟨b2, 0, none⟩), .slice A12 (r7.2.2.2.1.set r7.1.toNat (a1, (List.replicate r8.toNat (0 : Int)), true, 1)).length c_12, .map (some b3), .slice A13 r7.2.2.2.2.2.1.length c_13, .pointer (some ⟨b4, 0, none⟩)], mapC .u32 (Value.int .i64) b3 r7.2.2.2.2.1, ownC 3 (.int .i64) r7.2.2.2.2.2.1 (.slice A13 r7.2.2.2.2.2.1.length c_13), boxC b4 203 [.slice A14 r7.2.2.2.2.2.2.1.length c_14, .int .i64 r7.2.2.2.2.2.2.2], ownC 205 (.pair (.int .i64) (.pair (.int .i64) .bool)) r7.2.2.2.2.2.2.1 (.slice A14 r7.2.2.2.2.2.2.1.length c_14)] _ _ := h30.retell (by simp only [List.length_set])
    refine HJ.fin [(0, _), (1, _), (5, _)] rfl rfl ?_
    refine J.seq ?_
    refine J.heldSt mix (h30.only [0, 0, 0, 0, 0, 1, 1, 1] rfl) ?_
    have h31 := h30.drew
    refine HJ.run ttok rfl [0, 1, 2, 4, 6] rfl ?_
    refine HJ.q (i := 3) rfl rfl rfl rfl rfl rfl (q_load_box ttok 4 (fun w e => e) rfl rfl rfl rfl rfl) ?_
    refine HJ.q (i := 5) rfl rfl rfl rfl rfl rfl (q_load_box ttok 1 (fun w e => e) rfl rfl rfl rfl rfl) ?_
    refine HJ.op (i := 7) rfl rfl rfl rfl rfl (op_mapupd ttok (v := r7.1) (ix := a1) 5 rfl h31 rfl rfl rfl rfl rfl rfl rfl rfl rfl) ?_
    intro _ w23 h32
    replace h32 : St w0 F0 [mapC .u32 (Value.int .i64) b3 (mput a1 r7.1 r7.2.2.2.2.1), _, _, _, _, boxC b1 113 [.pointer (some ⟨b2, 0, none⟩), .slice A12 (r7.2.2.2.1.set r7.1.toNat (a1, (List.replicate r8.toNat (0 : Int)), true, 1)).length c_12, .map (some b3), .slice A13 r7.2.2.2.2.2.1.length c_13, .pointer (some ⟨b4, 0, none⟩)], _, _, _] _ _ := h32
    refine ⟨⟨[_], h32⟩, ?_⟩
    refine HJ.fin [(0, _), (1, _)] rfl rfl ?_
    refine J.region ?_
    refine RJ.run ttok 3 rfl ?_
    refine RJ.q rfl rfl (q_load_box ttok 5 h32.wht rfl rfl rfl rfl rfl) ?_
    refine RJ.run ttok 1 rfl ?_
    obtain ⟨r9, q9, H⟩ := bind_t H
    refine RJ.op rfl rfl (op_call [7, 7] (Q15.spec q9) rfl rfl rfl h32 rfl gnil) ?_
    rintro _ w24 ⟨_, ⟨A15, c_15, rfl, rfl⟩, h33⟩
    replace h33 : St w0 F0 [boxC b4 203 [.slice A15 r9.2.1.length c_15, .int .i64 r9.2.2], ownC 205 (.pair (.int .i64) (.pair (.int .i64) .bool)) r9.2.1 (.slice A15 r9.2.1.length c_15), _, _, _, _, _, _, _] _ _ := h33
    refine RJ.fin [] rfl ?_
    refine ⟨_, results_slots rfl, ?_⟩
    refine RJ.fin [] rfl ?_
    refine J.seq (J.region ?_)
    refine RJ.run ttok 1 rfl ?_
    refine RJ.fin [(4, .int .i64 0)] rfl ?_
    refine J.ret ?_
    obtain rfl := Option.some.inj H
    exact ⟨_, _, _, (results_slots rfl), ⟨_, _, _, _, _, _, _, _, rfl, rfl⟩, h33.only [7, 5, 5, 3, 2, 3, 0, 0] rfl⟩
  replace H := ite_f c6 H
  refine J.skip ?_
  refine J.seq (J.region ?_)
  refine RJ.run ttok 6 rfl ?_
  refine RJ.q rfl rfl (q_load_box ttok 0 h1.wht rfl rfl rfl rfl rfl) ?_
  obtain ⟨r10, q10, H⟩ := bind_t H
  refine RJ.op rfl rfl (op_call [1, 1] (Q27.spec q10) rfl rfl rfl h1 rfl gnil) ?_
  rintro _ w25 ⟨_, ⟨rfl, rfl⟩, h34⟩
  replace h34 : St w0 F0 [_, _, _, _, _, _, _, _] _ _ := h34
  obtain ⟨⟨p13, p14⟩, H⟩ := guard_t H
  refine RJ.op rfl rfl (op_make ttok (ty := (.int .u8)) rfl (0 : Int) rfl rfl rfl rfl rfl rfl rfl (by decide) h34 p13 p14) ?_
  rintro _ w26 ⟨b11, rfl, h35⟩
  replace h35 : St w0 F0 [ownC 5 (.int .u8) (List.replicate r10.toNat (0 : Int)) (.slice (some ⟨b11, 0, none⟩) (List.replicate r10.toNat (0 : Int)).length (r10.toNat)), _, _, _, _, _, _, _, _] _ _ := h35
  refine RJ.run ttok 1 rfl ?_
  refine RJ.inline rfl rfl rfl rfl rfl Try.func106 rfl (by kernel_rfl) (by kernel_rfl) ?_
  refine J.seq (J.region ?_)
  refine RJ.op rfl rfl (op_box rfl rfl h35) ?_
  rintro _ w27 ⟨b12, rfl, h36⟩
  replace h36 : St w0 F0 [boxC b12 162 [.int .u32 a1, .slice (some ⟨b11, 0, none⟩) (List.replicate r10.toNat (0 : Int)).length (r10.toNat), .bool true, .int .i64 0], _, _, _, _, _, _, _, _, _] _ _ := h36
  refine RJ.fin [(0, _), (1, .int .i64 (mget (0 : Int) a0.2.2.1 a1)), (5, .pointer (some ⟨b12, 0, none⟩))] rfl ?_
  refine J.seq (J.region ?_)
  refine RJ.run ttok 1 rfl ?_
  refine RJ.op rfl rfl (op_store ttok 0 rfl h36 rfl rfl rfl rfl rfl rfl rfl) ?_
  intro _ w28 h37
  replace h37 : St w0 F0 [boxC b12 162 [.int .u32 a1, .slice (some ⟨b11, 0, none⟩) (List.replicate r10.toNat (0 : Int)).length (r10.toNat), .bool true, .int .i64 1], _, _, _, _, _, _, _, _, _] _ _ := h37
  refine RJ.fin [(0, _), (1, _), (5, _)] rfl ?_
  refine J.seq ?_
  refine J.heldSt mix (h37.only [0, 1, 1, 1, 2, 2, 2, 2] rfl) ?_
  have h38 := h37.drew
  refine HJ.run ttok rfl [0, 1, 2, 4] rfl ?_
  refine HJ.q (i := 3) rfl rfl rfl rfl rfl rfl (q_load_box ttok 3 (fun w e => e) rfl rfl rfl rfl rfl) ?_
  refine HJ.q (i := 5) rfl rfl rfl rfl rfl rfl (q_load_box ttok 0 (fun w e => e) rfl rfl rfl rfl rfl) ?_
  obtain ⟨⟨p15, p16⟩, H⟩ := guard_t H
  have e4 := elem_A h38.wh (Gives.of 5 rfl own_rd) p15 p16
  refine HJ.q (i := 6) rfl rfl rfl rfl rfl rfl (q_index ttok rfl rfl rfl rfl rfl e4 p15 p16) ?_
  have h39 := (h38.only [5, 1, 0, 0, 0, 0, 0, 0, 0, 0] rfl).both
  refine HJ.op (i := 7) rfl rfl rfl rfl rfl (op_store_eat (ty := (.pair (.int .u32) (.pair (.slice 5 (.int .u8)) (.pair .bool (.int .i64))))) (f := 0) (ix := (mget (0 : Int) a0.2.2.1 a1)) ttok (a1, (List.replicate r10.toNat (0 : Int)), true, 1) rfl h39 rfl p15 p16 rfl rfl rfl rfl rfl rfl hnew_fr) ?_
  intro _ w29 h40
  replace h40 : St w0 F0 [ownC 162 (.pair (.int .u32) (.pair (.slice 5 (.int .u8)) (.pair .bool (.int .i64)))) (a0.2.1.set (mget (0 : Int) a0.2.2.1 a1).toNat (a1, (List.replicate r10.toNat (0 : Int)), true, 1)) (.slice A2 (a0.2.1.set (mget (0 : Int) a0.2.2.1 a1).toNat (a1, (List.replicate r10.toNat (0 : Int)), true, 1)).length c_2), _, _, _, _, _, _, _, _] _ _ := h40
  refine ⟨⟨[_], h40⟩, ?_⟩
  replace h40 : St w0 F0 [ownC 162 (.pair (.int .u32) (.pair (.slice 5 (.int .u8)) (.pair .bool (.int .i64)))) (a0.2.1.set (mget (0 : Int) a0.2.2.1 a1).toNat (a1, (List.replicate r10.toNat (0 : Int)), true, 1)) (.slice A2 (a0.2.1.set (mget (0 : Int) a0.2.2.1 a1).toNat (a1, (List.replicate r10.toNat (0 : Int)), true, 1)).length c_2), boxC b12 162 [.int .u32 a1, .slice (some ⟨b11, 0, none⟩) (List.replicate r10.toNat (0 : Int)).length (r10.toNat), .bool true, .int .i64 1], boxC b2 51 [.int .i64 a0.1.1, .slice A1 a0.1.2.1.length c_1, .int .u64 a0.1.2.2.1, .int .u64 a0.1.2.2.2], ownC 5 (.int .u8) a0.1.2.1 (.slice A1 a0.1.2.1.length c_1), boxC b1 113 [.pointer (some ⟨b2, 0, none⟩), .slice A2 (a0.2.1.set (mget (0 : Int) a0.2.2.1 a1).toNat (a1, (List.replicate r10.toNat (0 : Int)), true, 1)).length c_2, .map (some b3), .slice A3 a0.2.2.2.1.length c_3, .pointer (some ⟨b4, 0, none⟩)], mapC .u32 (Value.int .i64) b3 a0.2.2.1, ownC 3 (.int .i64) a0.2.2.2.1 (.slice A3 a0.2.2.2.1.length c_3), boxC b4 203 [.slice A4 a0.2.2.2.2.1.length c_4, .int .i64 a0.2.2.2.2.2], ownC 205 (.pair (.int .i64) (.pair (.int .i64) .bool)) a0.2.2.2.2.1 (.slice A4 a0.2.2.2.2.1.length c_4)] _ _ := h40.retell (by simp only [List.length_set])
  refine HJ.fin [(0, _), (1, _), (5, _)] rfl rfl ?_
  refine J.seq ?_
  refine J.heldSt mix (h40.only [0, 0, 0, 0, 0, 1, 1, 1] rfl) ?_
  have h41 := h40.drew
  refine HJ.run ttok rfl [0, 1, 2, 4, 6] rfl ?_
  refine HJ.q (i := 3) rfl rfl rfl rfl rfl rfl (q_load_box ttok 4 (fun w e => e) rfl rfl rfl rfl rfl) ?_
  refine HJ.q (i := 5) rfl rfl rfl rfl rfl rfl (q_load_box ttok 1 (fun w e => e) rfl rfl rfl rfl rfl) ?_
  refine HJ.op (i := 7) rfl rfl rfl rfl rfl (op_mapupd ttok (v := (mget (0 : Int) a0.2.2.1 a1)) (ix := a1) 5 rfl h41 rfl rfl rfl rfl rfl rfl rfl rfl rfl) ?_
  intro _ w30 h42
  replace h42 : St w0 F0 [mapC .u32 (Value.int .i64) b3 (mput a1 (mget (0 : Int) a0.2.2.1 a1) a0.2.2.1), _, _, _, _, boxC b1 113 [.pointer (some ⟨b2, 0, none⟩), .slice A2 (a0.2.1.set (mget (0 : Int) a0.2.2.1 a1).toNat (a1, (List.replicate r10.toNat (0 : Int)), true, 1)).length c_2, .map (some b3), .slice A3 a0.2.2.2.1.length c_3, .pointer (some ⟨b4, 0, none⟩)], _, _, _] _ _ := h42
  refine ⟨⟨[_], h42⟩, ?_⟩
  refine HJ.fin [(0, _), (1, _)] rfl rfl ?_
  refine J.region ?_
  refine RJ.run ttok 3 rfl ?_
  refine RJ.q rfl rfl (q_load_box ttok 5 h42.wht rfl rfl rfl rfl rfl) ?_
  refine RJ.run ttok 1 rfl ?_
  obtain ⟨r11, q11, H⟩ := bind_t H
  refine RJ.op rfl rfl (op_call [7, 7] (Q15.spec q11) rfl rfl rfl h42 rfl gnil) ?_
  rintro _ w31 ⟨_, ⟨A16, c_16, rfl, rfl⟩, h43⟩
  replace h43 : St w0 F0 [boxC b4 203 [.slice A16 r11.2.1.length c_16, .int .i64 r11.2.2], ownC 205 (.pair (.int .i64) (.pair (.int .i64) .bool)) r11.2.1 (.slice A16 r11.2.1.length c_16), _, _, _, _, _, _, _] _ _ := h43
  refine RJ.fin [] rfl ?_
  refine ⟨_, results_slots rfl, ?_⟩
  refine RJ.fin [] rfl ?_
  refine J.seq (J.region ?_)
  refine RJ.run ttok 1 rfl ?_
  refine RJ.fin [(4, .int .i64 0)] rfl ?_
  refine J.ret ?_
  obtain rfl := Option.some.inj H
  exact ⟨_, _, _, (results_slots rfl), ⟨_, _, _, _, _, _, _, _, rfl, rfl⟩, h43.only [7, 5, 5, 3, 2, 3, 0, 0] rfl⟩

def Q20.f (a0 : (List (Int × Int × Bool)) × Int) (a1 : Int) (a2 : Int) : Option (((List (Int × Int × Bool)) × Int)) := if 0 ≤ a2 ∧ a2 < (a0.1.length : Int) then (if 0 ≤ a1 ∧ a1 < (a0.1.length : Int) then (if 0 ≤ a2 ∧ a2 < ((a0.1.set a1.toNat (a2, (gt a0.1 a2).2.1, true)).length : Int) then (if 0 ≤ ((gt a0.1 a2).2.1) ∧ ((gt a0.1 a2).2.1) < (((a0.1.set a1.toNat (a2, (gt a0.1 a2).2.1, true)).set a2.toNat ((gt (a0.1.set a1.toNat (a2, (gt a0.1 a2).2.1, true)) a2).1, a1, (gt (a0.1.set a1.toNat (a2, (gt a0.1 a2).2.1, true)) a2).2.2)).length : Int) then (some ((((a0.1.set a1.toNat (a2, (gt a0.1 a2).2.1, true)).set a2.toNat ((gt (a0.1.set a1.toNat (a2, (gt a0.1 a2).2.1, true)) a2).1, a1, (gt (a0.1.set a1.toNat (a2, (gt a0.1 a2).2.1, true)) a2).2.2)).set ((gt a0.1 a2).2.1).toNat (a1, (gt ((a0.1.set a1.toNat (a2, (gt a0.1 a2).2.1, true)).set a2.toNat ((gt (a0.1.set a1.toNat (a2, (gt a0.1 a2).2.1, true)) a2).1, a1, (gt (a0.1.set a1.toNat (a2, (gt a0.1 a2).2.1, true)) a2).2.2)) ((gt a0.1 a2).2.1)).2.1, (gt ((a0.1.set a1.toNat (a2, (gt a0.1 a2).2.1, true)).set a2.toNat ((gt (a0.1.set a1.toNat (a2, (gt a0.1 a2).2.1, true)) a2).1, a1, (gt (a0.1.set a1.toNat (a2, (gt a0.1 a2).2.1, true)) a2).2.2)) ((gt a0.1 a2).2.1)).2.2)), (w64 (a0.2 + 1)))) else none) else none) else none) else none
theorem Q20.spec {a0 : (List (Int × Int × Bool)) × Int} {a1 : Int} {a2 : Int} {b1 : Nat} {A1 : Option Addr} {c_1 : Nat} {r : ((List (Int × Int × Bool)) × Int)} (H : Q20.f a0 a1 a2 = some r) :
    Spec Try.prog 149 [.pointer (some ⟨b1, 0, none⟩), .int .i64 a1, .int .i64 a2] [boxC b1 203 [.slice A1 a0.1.length c_1, .int .i64 a0.2], ownC 205 (.pair (.int .i64) (.pair (.int .i64) .bool)) a0.1 (.slice A1 a0.1.length c_1)] [] (fun v l => ∃ (A_0 : Option Addr) (c_0 : Nat), v = .tuple #[] ∧ l = [boxC b1 203 [.slice A_0 r.1.length c_0, .int .i64 r.2], ownC 205 (.pair (.int .i64) (.pair (.int .i64) .bool)) r.1 (.slice A_0 r.1.length c_0)]) := by
  refine Spec.enter Try.func149 rfl (by kernel_rfl) (by kernel_rfl) fun w0 F0 h0 => ?_
  unfold Q20.f at H
  refine J.seq (J.region ?_)
  refine RJ.run ttok 3 rfl ?_
  refine RJ.q rfl rfl (q_load_box ttok 0 h0.wht rfl rfl rfl rfl rfl) ?_
  refine RJ.run ttok 1 rfl ?_
  obtain ⟨⟨p1, p2⟩, H⟩ := guard_t H
  have e1 := elem_A h0.wh (Gives.of 1 rfl own_rd) p1 p2
  refine RJ.q rfl rfl (q_index ttok rfl rfl rfl rfl rfl e1 p1 p2) ?_
  refine RJ.run ttok 1 rfl ?_
  refine RJ.q rfl rfl (q_load_elem (f := 1) ttok rfl h0.wht (Gives.of 1 rfl own_rd) p1 p2 rfl rfl rfl rfl rfl) ?_
  refine RJ.run ttok 1 rfl ?_
  refine RJ.fin [(0, .pointer (some ⟨b1, 0, none⟩)), (1, .int .i64 a1), (2, .int .i64 a2), (6, .int .i64 ((gt a0.1 a2).2.1))] rfl ?_
  refine J.seq (J.region ?_)
  refine RJ.run ttok 3 rfl ?_
  refine RJ.q rfl rfl (q_load_box ttok 0 h0.wht rfl rfl rfl rfl rfl) ?_
  refine RJ.run ttok 4 rfl ?_
  obtain ⟨⟨p3, p4⟩, H⟩ := guard_t H
  refine RJ.q rfl rfl (q_index ttok rfl rfl rfl rfl rfl e1 p3 p4) ?_
  refine RJ.op rfl rfl (op_store_elem (ty := (.pair (.int .i64) (.pair (.int .i64) .bool))) (f := 0) (ix := a1) ttok rfl (a2, (gt a0.1 a2).2.1, true) 1 rfl h0 rfl rfl p3 p4 rfl rfl rfl rfl rfl rfl rfl) ?_
  intro _ w1 h1
  replace h1 : St w0 F0 [ownC 205 (.pair (.int .i64) (.pair (.int .i64) .bool)) (a0.1.set a1.toNat (a2, (gt a0.1 a2).2.1, true)) (.slice A1 (a0.1.set a1.toNat (a2, (gt a0.1 a2).2.1, true)).length c_1), boxC b1 203 [.slice A1 a0.1.length c_1, .int .i64 a0.2]] _ _ := h1
  replace h1 : St w0 F0 [ownC 205 (.pair (.int .i64) (.pair (.int .i64) .bool)) (a0.1.set a1.toNat (a2, (gt a0.1 a2).2.1, true)) (.slice A1 (a0.1.set a1.toNat (a2, (gt a0.1 a2).2.1, true)).length c_1), boxC b1 203 [.slice A1 (a0.1.set a1.toNat (a2, (gt a0.1 a2).2.1, true)).length c_1, .int .i64 a0.2]] _ _ := h1.retell (by simp only [List.length_set])
  refine RJ.fin [(0, _), (1, _), (2, _), (6, _)] rfl ?_
  refine J.seq (J.region ?_)
  refine RJ.run ttok 3 rfl ?_
  refine RJ.q rfl rfl (q_load_box ttok 1 h1.wht rfl rfl rfl rfl rfl) ?_
  refine RJ.run ttok 2 rfl ?_
  obtain ⟨⟨p5, p6⟩, H⟩ := guard_t H
  refine RJ.q rfl rfl (q_index ttok rfl rfl rfl rfl rfl e1 p5 p6) ?_
  refine RJ.run ttok 1 rfl ?_
  refine RJ.op rfl rfl (op_store_elem (ty := (.pair (.int .i64) (.pair (.int .i64) .bool))) (f := 1) (ix := a2) ttok rfl ((gt (a0.1.set a1.toNat (a2, (gt a0.1 a2).2.1, true)) a2).1, a1, (gt (a0.1.set a1.toNat (a2, (gt a0.1 a2).2.1, true)) a2).2.2) 0 rfl h1 rfl rfl p5 p6 rfl rfl rfl rfl rfl rfl rfl) ?_
  intro _ w2 h2
  replace h2 : St w0 F0 [ownC 205 (.pair (.int .i64) (.pair (.int .i64) .bool)) ((a0.1.set a1.toNat (a2, (gt a0.1 a2).2.1, true)).set a2.toNat ((gt (a0.1.set a1.toNat (a2, (gt a0.1 a2).2.1, true)) a2).1, a1, (gt (a0.1.set a1.toNat (a2, (gt a0.1 a2).2.1, true)) a2).2.2)) (.slice A1 ((a0.1.set a1.toNat (a2, (gt a0.1 a2).2.1, true)).set a2.toNat ((gt (a0.1.set a1.toNat (a2, (gt a0.1 a2).2.1, true)) a2).1, a1, (gt (a0.1.set a1.toNat (a2, (gt a0.1 a2).2.1, true)) a2).2.2)).length c_1), boxC b1 203 [.slice A1 (a0.1.set a1.toNat (a2, (gt a0.1 a2).2.1, true)).length c_1, .int .i64 a0.2]] _ _ := h2
  replace h2 : St w0 F0 [ownC 205 (.pair (.int .i64) (.pair (.int .i64) .bool)) ((a0.1.set a1.toNat (a2, (gt a0.1 a2).2.1, true)).set a2.toNat ((gt (a0.1.set a1.toNat (a2, (gt a0.1 a2).2.1, true)) a2).1, a1, (gt (a0.1.set a1.toNat (a2, (gt a0.1 a2).2.1, true)) a2).2.2)) (.slice A1 ((a0.1.set a1.toNat (a2, (gt a0.1 a2).2.1, true)).set a2.toNat ((gt (a0.1.set a1.toNat (a2, (gt a0.1 a2).2.1, true)) a2).1, a1, (gt (a0.1.set a1.toNat (a2, (gt a0.1 a2).2.1, true)) a2).2.2)).length c_1), boxC b1 203 [.slice A1 ((a0.1.set a1.toNat (a2, (gt a0.1 a2).2.1, true)).set a2.toNat ((gt (a0.1.set a1.toNat (a2, (gt a0.1 a2).2.1, true)) a2).1, a1, (gt (a0.1.set a1.toNat (a2, (gt a0.1 a2).2.1, true)) a2).2.2)).length c_1, .int .i64 a0.2]] _ _ := h2.retell (by simp only [List.length_set])
  refine RJ.fin [(0, _), (1, _), (6, _)] rfl ?_
  refine J.seq (J.region ?_)
  refine RJ.run ttok 3 rfl ?_
  refine RJ.q rfl rfl (q_load_box ttok 1 h2.wht rfl rfl rfl rfl rfl) ?_
  refine RJ.run ttok 2 rfl ?_
  obtain ⟨⟨p7, p8⟩, H⟩ := guard_t H
  refine RJ.q rfl rfl (q_index ttok rfl rfl rfl rfl rfl e1 p7 p8) ?_
  refine RJ.run ttok 1 rfl ?_
  refine RJ.op rfl rfl (op_store_elem (ty := (.pair (.int .i64) (.pair (.int .i64) .bool))) (f := 0) (ix := ((gt a0.1 a2).2.1)) ttok rfl (a1, (gt ((a0.1.set a1.toNat (a2, (gt a0.1 a2).2.1, true)).set a2.toNat ((gt (a0.1.set a1.toNat (a2, (gt a0.1 a2).2.1, true)) a2).1, a1, (gt (a0.1.set a1.toNat (a2, (gt a0.1 a2).2.1, true)) a2).2.2)) ((gt a0.1 a2).2.1)).2.1, (gt ((a0.1.set a1.toNat (a2, (gt a0.1 a2).2.1, true)).set a2.toNat ((gt (a0.1.set a1.toNat (a2, (gt a0.1 a2).2.1, true)) a2).1, a1, (gt (a0.1.set a1.toNat (a2, (gt a0.1 a2).2.1, true)) a2).2.2)) ((gt a0.1 a2).2.1)).2.2) 0 rfl h2 rfl rfl p7 p8 rfl rfl rfl rfl rfl rfl rfl) ?_
  intro _ w3 h3
  replace h3 : St w0 F0 [ownC 205 (.pair (.int .i64) (.pair (.int .i64) .bool)) (((a0.1.set a1.toNat (a2, (gt a0.1 a2).2.1, true)).set a2.toNat ((gt (a0.1.set a1.toNat (a2, (gt a0.1 a2).2.1, true)) a2).1, a1, (gt (a0.1.set a1.toNat (a2, (gt a0.1 a2).2.1, true)) a2).2.2)).set ((gt a0.1 a2).2.1).toNat (a1, (gt ((a0.1.set a1.toNat (a2, (gt a0.1 a2).2.1, true)).set a2.toNat ((gt (a0.1.set a1.toNat (a2, (gt a0.1 a2).2.1, true)) a2).1, a1, (gt (a0.1.set a1.toNat (a2, (gt a0.1 a2).2.1, true)) a2).2.2)) ((gt a0.1 a2).2.1)).2.1, (gt ((a0.1.set a1.toNat (a2, (gt a0.1 a2).2.1, true)).set a2.toNat ((gt (a0.1.set a1.toNat (a2, (gt a0.1 a2).2.1, true)) a2).1, a1, (gt (a0.1.set a1.toNat (a2, (gt a0.1 a2).2.1, true)) a2).2.2)) ((gt a0.1 a2).2.1)).2.2)) (.slice A1 (((a0.1.set a1.toNat (a2, (gt a0.1 a2).2.1, true)).set a2.toNat ((gt (a0.1.set a1.toNat (a2, (gt a0.1 a2).2.1, true)) a2).1, a1, (gt (a0.1.set a1.toNat (a2, (gt a0.1 a2).2.1, true)) a2).2.2)).set ((gt a0.1 a2).2.1).toNat (a1, (gt ((a0.1.set a1.toNat (a2, (gt a0.1 a2).2.1, true)).set a2.toNat ((gt (a0.1.set a1.toNat (a2, (gt a0.1 a2).2.1, true)) a2).1, a1, (gt (a0.1.set a1.toNat (a2, (gt a0.1 a2).2.1, true)) a2).2.2)) ((gt a0.1 a2).2.1)).2.1, (gt ((a0.1.set a1.toNat (a2, (gt a0.1 a2).2.1, true)).set a2.toNat ((gt (a0.1.set a1.toNat (a2, (gt a0.1 a2).2.1, true)) a2).1, a1, (gt (a0.1.set a1.toNat (a2, (gt a0.1 a2).2.1, true)) a2).2.2)) ((gt a0.1 a2).2.1)).2.2)).length c_1), boxC b1 203 [.slice A1 ((a0.1.set a1.toNat (a2, (gt a0.1 a2).2.1, true)).set a2.toNat ((gt (a0.1.set a1.toNat (a2, (gt a0.1 a2).2.1, true)) a2).1, a1, (gt (a0.1.set a1.toNat (a2, (gt a0.1 a2).2.1, true)) a2).2.2)).length c_1, .int .i64 a0.2]] _ _ := h3
  replace h3 : St w0 F0 [ownC 205 (.pair (.int .i64) (.pair (.int .i64) .bool)) (((a0.1.set a1.toNat (a2, (gt a0.1 a2).2.1, true)).set a2.toNat ((gt (a0.1.set a1.toNat (a2, (gt a0.1 a2).2.1, true)) a2).1, a1, (gt (a0.1.set a1.toNat (a2, (gt a0.1 a2).2.1, true)) a2).2.2)).set ((gt a0.1 a2).2.1).toNat (a1, (gt ((a0.1.set a1.toNat (a2, (gt a0.1 a2).2.1, true)).set a2.toNat ((gt (a0.1.set a1.toNat (a2, (gt a0.1 a2).2.1, true)) a2).1, a1, (gt (a0.1.set a1.toNat (a2, (gt a0.1 a2).2.1, true)) a2).2.2)) ((gt a0.1 a2).2.1)).2.1, (gt ((a0.1.set a1.toNat (a2, (gt a0.1 a2).2.1, true)).set a2.toNat ((gt (a0.1.set a1.toNat (a2, (gt a0.1 a2).2.1, true)) a2).1, a1, (gt (a0.1.set a1.toNat (a2, (gt a0.1 a2).2.1, true)) a2).2.2)) ((gt a0.1 a2).2.1)).2.2)) (.slice A1 (((a0.1.set a1.toNat (a2, (gt a0.1 a2).2.1, true)).set a2.toNat ((gt (a0.1.set a1.toNat (a2, (gt a0.1 a2).2.1, true)) a2).1, a1, (gt (a0.1.set a1.toNat (a2, (gt a0.1 a2).2.1, true)) a2).2.2)).set ((gt a0.1 a2).2.1).toNat (a1, (gt ((a0.1.set a1.toNat (a2, (gt a0.1 a2).2.1, true)).set a2.toNat ((gt (a0.1.set a1.toNat (a2, (gt a0.1 a2).2.1, true)) a2).1, a1, (gt (a0.1.set a1.toNat (a2, (gt a0.1 a2).2.1, true)) a2).2.2)) ((gt a0.1 a2).2.1)).2.1, (gt ((a0.1.set a1.toNat (a2, (gt a0.1 a2).2.1, true)).set a2.toNat ((gt (a0.1.set a1.toNat (a2, (gt a0.1 a2).2.1, true)) a2).1, a1, (gt (a0.1.set a1.toNat (a2, (gt a0.1 a2).2.1, true)) a2).2.2)) ((gt a0.1 a2).2.1)).2.2)).length c_1), boxC b1 203 [.slice A1 (((a0.1.set a1.toNat (a2, (gt a0.1 a2).2.1, true)).set a2.toNat ((gt (a0.1.set a1.toNat (a2, (gt a0.1 a2).2.1, true)) a2).1, a1, (gt (a0.1.set a1.toNat (a2, (gt a0.1 a2).2.1, true)) a2).2.2)).set ((gt a0.1 a2).2.1).toNat (a1, (gt ((a0.1.set a1.toNat (a2, (gt a0.1 a2).2.1, true)).set a2.toNat ((gt (a0.1.set a1.toNat (a2, (gt a0.1 a2).2.1, true)) a2).1, a1, (gt (a0.1.set a1.toNat (a2, (gt a0.1 a2).2.1, true)) a2).2.2)) ((gt a0.1 a2).2.1)).2.1, (gt ((a0.1.set a1.toNat (a2, (gt a0.1 a2).2.1, true)).set a2.toNat ((gt (a0.1.set a1.toNat (a2, (gt a0.1 a2).2.1, true)) a2).1, a1, (gt (a0.1.set a1.toNat (a2, (gt a0.1 a2).2.1, true)) a2).2.2)) ((gt a0.1 a2).2.1)).2.2)).length c_1, .int .i64 a0.2]] _ _ := h3.retell (by simp only [List.length_set])
  refine RJ.fin [(0, _)] rfl ?_
  refine J.region ?_
  refine RJ.run ttok 3 rfl ?_
  refine RJ.q rfl rfl (q_load_box ttok 1 h3.wht rfl rfl rfl rfl rfl) ?_
  refine RJ.run ttok 3 rfl ?_
  refine RJ.op rfl rfl (op_store ttok 1 rfl h3 rfl rfl rfl rfl rfl rfl rfl) ?_
  intro _ w4 h4
  replace h4 : St w0 F0 [boxC b1 203 [.slice A1 (((a0.1.set a1.toNat (a2, (gt a0.1 a2).2.1, true)).set a2.toNat ((gt (a0.1.set a1.toNat (a2, (gt a0.1 a2).2.1, true)) a2).1, a1, (gt (a0.1.set a1.toNat (a2, (gt a0.1 a2).2.1, true)) a2).2.2)).set ((gt a0.1 a2).2.1).toNat (a1, (gt ((a0.1.set a1.toNat (a2, (gt a0.1 a2).2.1, true)).set a2.toNat ((gt (a0.1.set a1.toNat (a2, (gt a0.1 a2).2.1, true)) a2).1, a1, (gt (a0.1.set a1.toNat (a2, (gt a0.1 a2).2.1, true)) a2).2.2)) ((gt a0.1 a2).2.1)).2.1, (gt ((a0.1.set a1.toNat (a2, (gt a0.1 a2).2.1, true)).set a2.toNat ((gt (a0.1.set a1.toNat (a2, (gt a0.1 a2).2.1, true)) a2).1, a1, (gt (a0.1.set a1.toNat (a2, (gt a0.1 a2).2.1, true)) a2).2.2)) ((gt a0.1 a2).2.1)).2.2)).length c_1, .int .i64 (w64 (a0.2 + 1))], _] _ _ := h4
  refine RJ.fin [] rfl ?_
  obtain rfl := Option.some.inj H
  exact ⟨_, _, _, (results_slots rfl), ⟨_, _, rfl, rfl⟩, h4.only [0, 0] rfl⟩

def Q16.f (a0 : (List (Int × Int × Bool)) × Int) (a1 : Int) : Option (Int × ((List (Int × Int × Bool)) × Int)) := (Q22.f (a0.1, a0.2) a1).bind fun r1 => (if (decide (r1 = 0)) = true then ((Q19.f (a0.1, a0.2) a1).bind fun r2 => ((Q21.f (r2.1, r2.2)).bind fun r3 => ((Q20.f (r2.1, r2.2) a1 r3).bind fun r4 => (some (r1, (r4.1, r4.2)))))) else (some (r1, (a0.1, a0.2))))
theorem Q16.spec {a0 : (List (Int × Int × Bool)) × Int} {a1 : Int} {b1 : Nat} {A1 : Option Addr} {c_1 : Nat} {r : Int × ((List (Int × Int × Bool)) × Int)} (H : Q16.f a0 a1 = some r) :
    Spec Try.prog 107 [.pointer (some ⟨b1, 0, none⟩), .int .i64 a1] [boxC b1 203 [.slice A1 a0.1.length c_1, .int .i64 a0.2], ownC 205 (.pair (.int .i64) (.pair (.int .i64) .bool)) a0.1 (.slice A1 a0.1.length c_1)] [] (fun v l => ∃ (A_0 : Option Addr) (c_0 : Nat), v = .int .i64 r.1 ∧ l = [boxC b1 203 [.slice A_0 r.2.1.length c_0, .int .i64 r.2.2], ownC 205 (.pair (.int .i64) (.pair (.int .i64) .bool)) r.2.1 (.slice A_0 r.2.1.length c_0)]) := by
  refine Spec.enter Try.func107 rfl (by kernel_rfl) (by kernel_rfl) fun w0 F0 h0 => ?_
  unfold Q16.f at H
  refine J.seq (J.region ?_)
  refine RJ.run ttok 1 rfl ?_
  refine RJ.fin [(0, .pointer (some ⟨b1, 0, none⟩)), (1, .int .i64 a1)] rfl ?_
  refine J.seq (J.region ?_)
  refine RJ.run ttok 2 rfl ?_
  obtain ⟨r1, q1, H⟩ := bind_t H
  refine RJ.op rfl rfl (op_call [0, 0] (Q22.spec q1) rfl rfl rfl h0 rfl gnil) ?_
  rintro _ w1 ⟨_, ⟨rfl, rfl⟩, h1⟩
  replace h1 : St w0 F0 [boxC b1 203 [.slice A1 a0.1.length c_1, .int .i64 a0.2], ownC 205 (.pair (.int .i64) (.pair (.int .i64) .bool)) a0.1 (.slice A1 a0.1.length c_1)] _ _ := h1
  refine RJ.run ttok 1 rfl ?_
  refine RJ.fin [(0, _), (1, _), (5, .int .i64 r1)] rfl ?_
  refine J.seq (J.seq (J.region ?_))
  refine RJ.run ttok 2 rfl ?_
  refine RJ.fin [(0, _), (1, _), (5, _), (10, .bool (decide (r1 = 0)))] rfl ?_
  refine J.cond rfl (fun c1 => ?_) (fun c1 => ?_)
  · replace H := ite_t c1 H
    refine J.seq (J.region ?_)
    refine RJ.run ttok 2 rfl ?_
    obtain ⟨r2, q2, H⟩ := bind_t H
    refine RJ.op rfl rfl (op_call [0, 0] (Q19.spec q2) rfl rfl rfl h1 rfl gnil) ?_
    rintro _ w2 ⟨_, ⟨A2, c_2, rfl, rfl⟩, h2⟩
    replace h2 : St w0 F0 [boxC b1 203 [.slice A2 r2.1.length c_2, .int .i64 r2.2], ownC 205 (.pair (.int .i64) (.pair (.int .i64) .bool)) r2.1 (.slice A2 r2.1.length c_2)] _ _ := h2
    refine RJ.fin [(0, _), (1, _), (5, _)] rfl ?_
    refine J.region ?_
    refine RJ.run ttok 3 rfl ?_
    obtain ⟨r3, q3, H⟩ := bind_t H
    refine RJ.op rfl rfl (op_call [0, 0] (Q21.spec q3) rfl rfl rfl h2 rfl gnil) ?_
    rintro _ w3 ⟨_, ⟨rfl, rfl⟩, h3⟩
    replace h3 : St w0 F0 [_, _] _ _ := h3
    obtain ⟨r4, q4, H⟩ := bind_t H
    refine RJ.op rfl rfl (op_call [0, 0] (Q20.spec q4) rfl rfl rfl h3 rfl gnil) ?_
    rintro _ w4 ⟨_, ⟨A3, c_3, rfl, rfl⟩, h4⟩
    replace h4 : St w0 F0 [boxC b1 203 [.slice A3 r4.1.length c_3, .int .i64 r4.2], ownC 205 (.pair (.int .i64) (.pair (.int .i64) .bool)) r4.1 (.slice A3 r4.1.length c_3)] _ _ := h4
    refine RJ.fin [(5, _)] rfl ?_
    refine J.seq (J.region ?_)
    refine RJ.run ttok 2 rfl ?_
    refine RJ.fin [(4, .int .i64 r1)] rfl ?_
    refine J.ret ?_
    obtain rfl := Option.some.inj H
    exact ⟨_, _, _, (results_slots rfl), ⟨_, _, rfl, rfl⟩, h4.only [0, 0] rfl⟩
  replace H := ite_f c1 H
  refine J.skip ?_
  refine J.seq (J.region ?_)
  refine RJ.run ttok 2 rfl ?_
  refine RJ.fin [(4, .int .i64 r1)] rfl ?_
  refine J.ret ?_
  obtain rfl := Option.some.inj H
  exact ⟨_, _, _, (results_slots rfl), ⟨_, _, rfl, rfl⟩, h1.only [0, 0] rfl⟩

def Q8.f (a0 : (Int × List (Int) × (Int × Int)) × (List (Int × List (Int) × Bool × Int)) × (List (Int × Int)) × List (Int) × ((List (Int × Int × Bool)) × Int)) (a1 : Int) : Option (Int × ((Int × List (Int) × (Int × Int)) × (List (Int × List (Int) × Bool × Int)) × (List (Int × Int)) × List (Int) × ((List (Int × Int × Bool)) × Int))) := (Q12.f ((a0.1.1, a0.1.2.1, (a0.1.2.2.1, a0.1.2.2.2)), a0.2.1, a0.2.2.1, a0.2.2.2.1, (a0.2.2.2.2.1, a0.2.2.2.2.2))).bind fun r1 => (if r1 = true then (some (1, ((a0.1.1, a0.1.2.1, (a0.1.2.2.1, a0.1.2.2.2)), a0.2.1, a0.2.2.1, a0.2.2.2.1, (a0.2.2.2.2.1, a0.2.2.2.2.2)))) else (if (!(mhas a0.2.2.1 a1)) = true then (some (8, ((a0.1.1, a0.1.2.1, (a0.1.2.2.1, a0.1.2.2.2)), a0.2.1, a0.2.2.1, a0.2.2.2.1, (a0.2.2.2.2.1, a0.2.2.2.2.2)))) else (if 0 ≤ (mget (0 : Int) a0.2.2.1 a1) ∧ (mget (0 : Int) a0.2.2.1 a1) < (a0.2.1.length : Int) then (if (decide (((gt a0.2.1 (mget (0 : Int) a0.2.2.1 a1)).2.2.2) = 0)) = true then (some (8, ((a0.1.1, a0.1.2.1, (a0.1.2.2.1, a0.1.2.2.2)), a0.2.1, a0.2.2.1, a0.2.2.2.1, (a0.2.2.2.2.1, a0.2.2.2.2.2)))) else (if (decide (((gt (a0.2.1.set (mget (0 : Int) a0.2.2.1 a1).toNat ((gt a0.2.1 (mget (0 : Int) a0.2.2.1 a1)).1, (gt a0.2.1 (mget (0 : Int) a0.2.2.1 a1)).2.1, (gt a0.2.1 (mget (0 : Int) a0.2.2.1 a1)).2.2.1, (w64 (((gt a0.2.1 (mget (0 : Int) a0.2.2.1 a1)).2.2.2) - 1)))) (mget (0 : Int) a0.2.2.1 a1)).2.2.2) = 0)) = true then ((Q16.f (a0.2.2.2.2.1, a0.2.2.2.2.2) (mget (0 : Int) a0.2.2.1 a1)).bind fun r2 => (some (0, ((a0.1.1, a0.1.2.1, (a0.1.2.2.1, a0.1.2.2.2)), (a0.2.1.set (mget (0 : Int) a0.2.2.1 a1).toNat ((gt a0.2.1 (mget (0 : Int) a0.2.2.1 a1)).1, (gt a0.2.1 (mget (0 : Int) a0.2.2.1 a1)).2.1, (gt a0.2.1 (mget (0 : Int) a0.2.2.1 a1)).2.2.1, (w64 (((gt a0.2.1 (mget (0 : Int) a0.2.2.1 a1)).2.2.2) - 1)))), a0.2.2.1, a0.2.2.2.1, (r2.2.1, r2.2.2))))) else (some (0, ((a0.1.1, a0.1.2.1, (a0.1.2.2.1, a0.1.2.2.2)), (a0.2.1.set (mget (0 : Int) a0.2.2.1 a1).toNat ((gt a0.2.1 (mget (0 : Int) a0.2.2.1 a1)).1, (gt a0.2.1 (mget (0 : Int) a0.2.2.1 a1)).2.1, (gt a0.2.1 (mget (0 : Int) a0.2.2.1 a1)).2.2.1, (w64 (((gt a0.2.1 (mget (0 : Int) a0.2.2.1 a1)).2.2.2) - 1)))), a0.2.2.1, a0.2.2.2.1, (a0.2.2.2.2.1, a0.2.2.2.2.2)))))) else none)))
theorem Q8.spec {a0 : (Int × List (Int) × (Int × Int)) × (List (Int × List (Int) × Bool × Int)) × (List (Int × Int)) × List (Int) × ((List (Int × Int × Bool)) × Int)} {a1 : Int} {b1 : Nat} {b2 : Nat} {b3 : Nat} {b4 : Nat} {A1 : Option Addr} {c_1 : Nat} {A2 : Option Addr} {c_2 : Nat} {A3 : Option Addr} {c_3 : Nat} {A4 : Option Addr} {c_4 : Nat} {r : Int × ((Int × List (Int) × (Int × Int)) × (List (Int × List (Int) × Bool × Int)) × (List (Int × Int)) × List (Int) × ((List (Int × Int × Bool)) × Int))} (H : Q8.f a0 a1 = some r) :
    Spec Try.prog 58 [.pointer (some ⟨b1, 0, none⟩), .int .u32 a1] [boxC b1 113 [.pointer (some ⟨b2, 0, none⟩), .slice A2 a0.2.1.length c_2, .map (some b3), .slice A3 a0.2.2.2.1.length c_3, .pointer (some ⟨b4, 0, none⟩)], boxC b2 51 [.int .i64 a0.1.1, .slice A1 a0.1.2.1.length c_1, .int .u64 a0.1.2.2.1, .int .u64 a0.1.2.2.2], ownC 5 (.int .u8) a0.1.2.1 (.slice A1 a0.1.2.1.length c_1), ownC 162 (.pair (.int .u32) (.pair (.slice 5 (.int .u8)) (.pair .bool (.int .i64)))) a0.2.1 (.slice A2 a0.2.1.length c_2), mapC .u32 (Value.int .i64) b3 a0.2.2.1, ownC 3 (.int .i64) a0.2.2.2.1 (.slice A3 a0.2.2.2.1.length c_3), boxC b4 203 [.slice A4 a0.2.2.2.2.1.length c_4, .int .i64 a0.2.2.2.2.2], ownC 205 (.pair (.int .i64) (.pair (.int .i64) .bool)) a0.2.2.2.2.1 (.slice A4 a0.2.2.2.2.1.length c_4)] [] (fun v l => ∃ (A_0 : Option Addr) (c_0 : Nat) (A_1 : Option Addr) (c_1 : Nat) (A_2 : Option Addr) (c_2 : Nat) (A_3 : Option Addr) (c_3 : Nat), v = .int .i64 r.1 ∧ l = [boxC b1 113 [.pointer (some ⟨b2, 0, none⟩), .slice A_1 r.2.2.1.length c_1, .map (some b3), .slice A_2 r.2.2.2.2.1.length c_2, .pointer (some ⟨b4, 0, none⟩)], boxC b2 51 [.int .i64 r.2.1.1, .slice A_0 r.2.1.2.1.length c_0, .int .u64 r.2.1.2.2.1, .int .u64 r.2.1.2.2.2], ownC 5 (.int .u8) r.2.1.2.1 (.slice A_0 r.2.1.2.1.length c_0), ownC 162 (.pair (.int .u32) (.pair (.slice 5 (.int .u8)) (.pair .bool (.int .i64)))) r.2.2.1 (.slice A_1 r.2.2.1.length c_1), mapC .u32 (Value.int .i64) b3 r.2.2.2.1, ownC 3 (.int .i64) r.2.2.2.2.1 (.slice A_2 r.2.2.2.2.1.length c_2), boxC b4 203 [.slice A_3 r.2.2.2.2.2.1.length c_3, .int .i64 r.2.2.2.2.2.2], ownC 205 (.pair (.int .i64) (.pair (.int .i64) .bool)) r.2.2.2.2.2.1 (.slice A_3 r.2.2.2.2.2.1.length c_3)]) := by
  refine Spec.enter Try.func58 rfl (by kernel_rfl) (by kernel_rfl) fun w0 F0 h0 => ?_
  unfold Q8.f at H
  refine J.seq (J.region ?_)
  refine RJ.run ttok 1 rfl ?_
  refine RJ.fin [(0, .pointer (some ⟨b1, 0, none⟩)), (1, .int .u32 a1)] rfl ?_
  refine J.seq (J.region ?_)
  refine RJ.run ttok 2 rfl ?_
  refine RJ.inline rfl rfl rfl rfl rfl Try.func99 rfl (by kernel_rfl) (by kernel_rfl) ?_
  refine J.seq (J.region ?_)
  refine RJ.run ttok 2 rfl ?_
  refine RJ.fin [(0, _), (1, _)] rfl ?_
  refine J.seq (J.seq (J.region ?_))
  refine RJ.run ttok 1 rfl ?_
  obtain ⟨r1, q1, H⟩ := bind_t H
  refine RJ.op rfl rfl (op_call [0, 0, 0, 0, 0, 0, 0, 0] (Q12.spec q1) rfl rfl rfl h0 rfl gnil) ?_
  rintro _ w1 ⟨_, ⟨rfl, rfl⟩, h1⟩
  replace h1 : St w0 F0 [boxC b1 113 [.pointer (some ⟨b2, 0, none⟩), .slice A2 a0.2.1.length c_2, .map (some b3), .slice A3 a0.2.2.2.1.length c_3, .pointer (some ⟨b4, 0, none⟩)], boxC b2 51 [.int .i64 a0.1.1, .slice A1 a0.1.2.1.length c_1, .int .u64 a0.1.2.2.1, .int .u64 a0.1.2.2.2], ownC 5 (.int .u8) a0.1.2.1 (.slice A1 a0.1.2.1.length c_1), ownC 162 (.pair (.int .u32) (.pair (.slice 5 (.int .u8)) (.pair .bool (.int .i64)))) a0.2.1 (.slice A2 a0.2.1.length c_2), mapC .u32 (Value.int .i64) b3 a0.2.2.1, ownC 3 (.int .i64) a0.2.2.2.1 (.slice A3 a0.2.2.2.1.length c_3), boxC b4 203 [.slice A4 a0.2.2.2.2.1.length c_4, .int .i64 a0.2.2.2.2.2], ownC 205 (.pair (.int .i64) (.pair (.int .i64) .bool)) a0.2.2.2.2.1 (.slice A4 a0.2.2.2.2.1.length c_4)] _ _ := h1
  refine RJ.fin [(0, _), (1, _), (9, .bool r1)] rfl ?_
  refine J.cond rfl (fun c1 => ?_) (fun c1 => ?_)
  · replace H := ite_t c1 H
    refine J.seq (J.region ?_)
    refine RJ.run ttok 2 rfl ?_
    refine RJ.fin [(4, .pointer none), (5, .int .i64 1)] rfl ?_
    refine J.ret ?_
    refine ⟨_, results_slots rfl, ?_⟩
    refine RJ.run ttok 5 rfl ?_
    refine RJ.fin [(0, .pointer (some ⟨b1, 0, none⟩)), (1, .int .u32 a1), (5, .pointer none), (6, .int .i64 1)] rfl ?_
    refine J.seq (J.seq (J.region ?_))
    refine RJ.run ttok 2 rfl ?_
    refine RJ.fin [(0, _), (1, _), (5, _), (6, _), (14, .bool true)] rfl ?_
    refine J.condT rfl ?_
    refine J.seq (J.region ?_)
    refine RJ.run ttok 2 rfl ?_
    refine RJ.fin [(4, .int .i64 1)] rfl ?_
    refine J.ret ?_
    obtain rfl := Option.some.inj H
    exact ⟨_, _, _, (results_slots rfl), ⟨_, _, _, _, _, _, _, _, rfl, rfl⟩, h1.only [0, 0, 0, 0, 0, 0, 0, 0] rfl⟩
  replace H := ite_f c1 H
  refine J.skip ?_
  refine J.seq (J.region ?_)
  refine RJ.run ttok 3 rfl ?_
  refine RJ.q rfl rfl (q_load_box ttok 0 h1.wht rfl rfl rfl rfl rfl) ?_
  refine RJ.run ttok 1 rfl ?_
  refine RJ.q rfl rfl (q_lookup_ok ttok (0 : Int) 4 h1.wht rfl rfl rfl rfl rfl rfl rfl rfl rfl rfl) ?_
  refine RJ.run ttok 5 rfl ?_
  refine RJ.fin [(0, _), (6, .int .i64 (mget (0 : Int) a0.2.2.1 a1)), (7, .bool (mhas a0.2.2.1 a1))] rfl ?_
  refine J.seq (J.seq (J.region ?_))
  refine RJ.run ttok 3 rfl ?_
  rcases Bool.eq_false_or_eq_true (!(mhas a0.2.2.1 a1)) with c2 | c2
  · replace H := ite_t c2 H
    refine RJ.know (t := 21) rfl (congrArg Value.bool c2) ?_
    refine RJ.run ttok 10 rfl ?_
    refine RJ.fin [(0, _), (6, _), (31, .bool true)] rfl ?_
    refine J.condT rfl ?_
    refine J.seq (J.region ?_)
    refine RJ.run ttok 2 rfl ?_
    refine RJ.fin [(4, .pointer none), (5, .int .i64 8)] rfl ?_
    refine J.ret ?_
    refine ⟨_, results_slots rfl, ?_⟩
    refine RJ.run ttok 5 rfl ?_
    refine RJ.fin [(0, .pointer (some ⟨b1, 0, none⟩)), (1, .int .u32 a1), (5, .pointer none), (6, .int .i64 8)] rfl ?_
    refine J.seq (J.seq (J.region ?_))
    refine RJ.run ttok 2 rfl ?_
    refine RJ.fin [(0, _), (1, _), (5, _), (6, _), (14, .bool true)] rfl ?_
    refine J.condT rfl ?_
    refine J.seq (J.region ?_)
    refine RJ.run ttok 2 rfl ?_
    refine RJ.fin [(4, .int .i64 8)] rfl ?_
    refine J.ret ?_
    obtain rfl := Option.some.inj H
    exact ⟨_, _, _, (results_slots rfl), ⟨_, _, _, _, _, _, _, _, rfl, rfl⟩, h1.only [0, 0, 0, 0, 0, 0, 0, 0] rfl⟩
  replace H := ite_f c2 H
  refine RJ.know (t := 21) rfl (congrArg Value.bool c2) ?_
  refine RJ.run ttok 3 rfl ?_
  refine RJ.q rfl rfl (q_load_box ttok 0 h1.wht rfl rfl rfl rfl rfl) ?_
  refine RJ.run ttok 1 rfl ?_
  obtain ⟨⟨p1, p2⟩, H⟩ := guard_t H
  have e1 := elem_A h1.wh (Gives.of 3 rfl own_rd) p1 p2
  refine RJ.q rfl rfl (q_index ttok rfl rfl rfl rfl rfl e1 p1 p2) ?_
  refine RJ.run ttok 1 rfl ?_
  refine RJ.q rfl rfl (q_load_deep (f := 3) ttok h1.wht (Gives.of 3 rfl own_rd) p1 p2 rfl rfl rfl rfl rfl rfl) ?_
  refine RJ.run ttok 2 rfl ?_
  refine RJ.fin [(0, _), (6, _), (31, .bool (decide (((gt a0.2.1 (mget (0 : Int) a0.2.2.1 a1)).2.2.2) = 0)))] rfl ?_
  refine J.cond rfl (fun c3 => ?_) (fun c3 => ?_)
  · replace H := ite_t c3 H
    refine J.seq (J.region ?_)
    refine RJ.run ttok 2 rfl ?_
    refine RJ.fin [(4, .pointer none), (5, .int .i64 8)] rfl ?_
    refine J.ret ?_
    refine ⟨_, results_slots rfl, ?_⟩
    refine RJ.run ttok 5 rfl ?_
    refine RJ.fin [(0, .pointer (some ⟨b1, 0, none⟩)), (1, .int .u32 a1), (5, .pointer none), (6, .int .i64 8)] rfl ?_
    refine J.seq (J.seq (J.region ?_))
    refine RJ.run ttok 2 rfl ?_
    refine RJ.fin [(0, _), (1, _), (5, _), (6, _), (14, .bool true)] rfl ?_
    refine J.condT rfl ?_
    refine J.seq (J.region ?_)
    refine RJ.run ttok 2 rfl ?_
    refine RJ.fin [(4, .int .i64 8)] rfl ?_
    refine J.ret ?_
    obtain rfl := Option.some.inj H
    exact ⟨_, _, _, (results_slots rfl), ⟨_, _, _, _, _, _, _, _, rfl, rfl⟩, h1.only [0, 0, 0, 0, 0, 0, 0, 0] rfl⟩
  replace H := ite_f c3 H
  refine J.skip ?_
  refine J.seq (J.region ?_)
  refine RJ.run ttok 3 rfl ?_
  refine RJ.q rfl rfl (q_load_box ttok 0 h1.wht rfl rfl rfl rfl rfl) ?_
  refine RJ.run ttok 1 rfl ?_
  refine RJ.q rfl rfl (q_index ttok rfl rfl rfl rfl rfl e1 p1 p2) ?_
  refine RJ.run ttok 2 rfl ?_
  refine RJ.fin [(4, .pointer (some ⟨blk A2, ofs A2 + (mget (0 : Int) a0.2.2.1 a1).toNat * 4, none⟩)), (5, .int .i64 0)] rfl ?_
  refine J.ret ?_
  refine ⟨_, results_slots rfl, ?_⟩
  refine RJ.run ttok 5 rfl ?_
  refine RJ.fin [(0, .pointer (some ⟨b1, 0, none⟩)), (1, .int .u32 a1), (5, .pointer (some ⟨blk A2, ofs A2 + (mget (0 : Int) a0.2.2.1 a1).toNat * 4, none⟩)), (6, .int .i64 0)] rfl ?_
  refine J.seq (J.seq (J.region ?_))
  refine RJ.run ttok 2 rfl ?_
  refine RJ.fin [(0, _), (1, _), (5, _), (6, _), (14, .bool false)] rfl ?_
  refine J.condF rfl ?_
  refine J.skip ?_
  refine J.seq (J.region ?_)
  refine RJ.run ttok 3 rfl ?_
  refine RJ.q rfl rfl (q_load_deep (f := 3) ttok h1.wht (Gives.of 3 rfl own_rd) p1 p2 rfl rfl rfl rfl rfl rfl) ?_
  refine RJ.run ttok 3 rfl ?_
  refine RJ.op rfl rfl (op_store_deep (ty := (.pair (.int .u32) (.pair (.slice 5 (.int .u8)) (.pair .bool (.int .i64))))) (f := 3) (ix := (mget (0 : Int) a0.2.2.1 a1)) ttok ((gt a0.2.1 (mget (0 : Int) a0.2.2.1 a1)).1, (gt a0.2.1 (mget (0 : Int) a0.2.2.1 a1)).2.1, (gt a0.2.1 (mget (0 : Int) a0.2.2.1 a1)).2.2.1, (w64 (((gt a0.2.1 (mget (0 : Int) a0.2.2.1 a1)).2.2.2) - 1))) 3 rfl h1 rfl rfl p1 p2 rfl rfl rfl rfl rfl rfl (hnew_put rfl rfl)) ?_
  intro _ w2 h2
  replace h2 : St w0 F0 [ownC 162 (.pair (.int .u32) (.pair (.slice 5 (.int .u8)) (.pair .bool (.int .i64)))) (a0.2.1.set (mget (0 : Int) a0.2.2.1 a1).toNat ((gt a0.2.1 (mget (0 : Int) a0.2.2.1 a1)).1, (gt a0.2.1 (mget (0 : Int) a0.2.2.1 a1)).2.1, (gt a0.2.1 (mget (0 : Int) a0.2.2.1 a1)).2.2.1, (w64 (((gt a0.2.1 (mget (0 : Int) a0.2.2.1 a1)).2.2.2) - 1)))) (.slice A2 (a0.2.1.set (mget (0 : Int) a0.2.2.1 a1).toNat ((gt a0.2.1 (mget (0 : Int) a0.2.2.1 a1)).1, (gt a0.2.1 (mget (0 : Int) a0.2.2.1 a1)).2.1, (gt a0.2.1 (mget (0 : Int) a0.2.2.1 a1)).2.2.1, (w64 (((gt a0.2.1 (mget (0 : Int) a0.2.2.1 a1)).2.2.2) - 1)))).length c_2), _, _, _, _, _, _, _] _ _ := h2
  replace h2 : St w0 F0 [ownC 162 (.pair (.int .u32) (.pair (.slice 5 (.int .u8)) (.pair .bool (.int .i64)))) (a0.2.1.set (mget (0 : Int) a0.2.2.1 a1).toNat ((gt a0.2.1 (mget (0 : Int) a0.2.2.1 a1)).1, (gt a0.2.1 (mget (0 : Int) a0.2.2.1 a1)).2.1, (gt a0.2.1 (mget (0 : Int) a0.2.2.1 a1)).2.2.1, (w64 (((gt a0.2.1 (mget (0 : Int) a0.2.2.1 a1)).2.2.2) - 1)))) (.slice A2 (a0.2.1.set (mget (0 : Int) a0.2.2.1 a1).toNat ((gt a0.2.1 (mget (0 : Int) a0.2.2.1 a1)).1, (gt a0.2.1 (mget (0 : Int) a0.2.2.1 a1)).2.1, (gt a0.2.1 (mget (0 : Int) a0.2.2.1 a1)).2.2.1, (w64 (((gt a0.2.1 (mget (0 : Int) a0.2.2.1 a1)).2.2.2) - 1)))).length c_2), boxC b1 113 [.pointer (some ⟨b2, 0, none⟩), .slice A2 (a0.2.1.set (mget (0 : Int) a0.2.2.1 a1).toNat ((gt a0.2.1 (mget (0 : Int) a0.2.2.1 a1)).1, (gt a0.2.1 (mget (0 : Int) a0.2.2.1 a1)).2.1, (gt a0.2.1 (mget (0 : Int) a0.2.2.1 a1)).2.2.1, (w64 (((gt a0.2.1 (mget (0 : Int) a0.2.2.1 a1)).2.2.2) - 1)))).length c_2, .map (some b3), .slice A3 a0.2.2.2.1.length c_3, .pointer (some ⟨b4, 0, none⟩)], boxC b2 51 [.int .i64 a0.1.1, .slice A1 a0.1.2.1.length c_1, .int .u64 a0.1.2.2.1, .int .u64 a0.1.2.2.2], ownC 5 (.int .u8) a0.1.2.1 (.slice A1 a0.1.2.1.length c_1), mapC .u32 (Value.int .i64) b3 a0.2.2.1, ownC 3 (.int .i64) a0.2.2.2.1 (.slice A3 a0.2.2.2.1.length c_3), boxC b4 203 [.slice A4 a0.2.2.2.2.1.length c_4, .int .i64 a0.2.2.2.2.2], ownC 205 (.pair (.int .i64) (.pair (.int .i64) .bool)) a0.2.2.2.2.1 (.slice A4 a0.2.2.2.2.1.length c_4)] _ _ := h2.retell (by simp only [List.length_set])
  refine RJ.fin [(0, _), (1, _), (5, _)] rfl ?_
  refine J.seq (J.seq (J.region ?_))
  refine RJ.run ttok 3 rfl ?_
  refine RJ.q rfl rfl (q_load_deep (f := 3) ttok h2.wht (Gives.of 0 rfl own_rd) p1 (by simpa only [List.length_set] using p2) rfl rfl rfl rfl rfl rfl) ?_
  refine RJ.run ttok 1 rfl ?_
  refine RJ.fin [(0, _), (1, _), (27, .bool (decide (((gt (a0.2.1.set (mget (0 : Int) a0.2.2.1 a1).toNat ((gt a0.2.1 (mget (0 : Int) a0.2.2.1 a1)).1, (gt a0.2.1 (mget (0 : Int) a0.2.2.1 a1)).2.1, (gt a0.2.1 (mget (0 : Int) a0.2.2.1 a1)).2.2.1, (w64 (((gt a0.2.1 (mget (0 : Int) a0.2.2.1 a1)).2.2.2) - 1)))) (mget (0 : Int) a0.2.2.1 a1)).2.2.2) = 0)))] rfl ?_
  refine J.cond rfl (fun c4 => ?_) (fun c4 => ?_)
  · replace H := ite_t c4 H
    refine J.heldSt mix (h2.only [0, 0, 0, 0, 0, 0] rfl) ?_
    have h3 := h2.drew
    refine HJ.run ttok rfl [0, 1, 2, 4, 5, 6, 8] rfl ?_
    refine HJ.q (i := 3) rfl rfl rfl rfl rfl rfl (q_load_box ttok 1 (fun w e => e) rfl rfl rfl rfl rfl) ?_
    refine HJ.q (i := 7) rfl rfl rfl rfl rfl rfl (q_load_box ttok 1 (fun w e => e) rfl rfl rfl rfl rfl) ?_
    refine HJ.q (i := 9) rfl rfl rfl rfl rfl rfl (q_lookup ttok (0 : Int) 4 (fun w e => e) rfl rfl rfl rfl rfl rfl rfl rfl rfl rfl) ?_
    obtain ⟨r2, q2, H⟩ := bind_t H
    refine HJ.op (i := 10) rfl rfl rfl rfl rfl (op_call [6, 6] (Q16.spec q2) rfl rfl rfl h3 rfl gnil) ?_
    rintro _ w3 ⟨_, ⟨A5, c_5, rfl, rfl⟩, h4⟩
    replace h4 : St w0 F0 [boxC b4 203 [.slice A5 r2.2.1.length c_5, .int .i64 r2.2.2], ownC 205 (.pair (.int .i64) (.pair (.int .i64) .bool)) r2.2.1 (.slice A5 r2.2.1.length c_5), _, boxC b1 113 [.pointer (some ⟨b2, 0, none⟩), .slice A2 (a0.2.1.set (mget (0 : Int) a0.2.2.1 a1).toNat ((gt a0.2.1 (mget (0 : Int) a0.2.2.1 a1)).1, (gt a0.2.1 (mget (0 : Int) a0.2.2.1 a1)).2.1, (gt a0.2.1 (mget (0 : Int) a0.2.2.1 a1)).2.2.1, (w64 (((gt a0.2.1 (mget (0 : Int) a0.2.2.1 a1)).2.2.2) - 1)))).length c_2, .map (some b3), .slice A3 a0.2.2.2.1.length c_3, .pointer (some ⟨b4, 0, none⟩)], _, _, _, _] _ _ := h4
    refine ⟨⟨[_, _], h4⟩, ?_⟩
    refine HJ.fin [] rfl rfl ?_
    refine J.seq (J.region ?_)
    refine RJ.run ttok 1 rfl ?_
    refine RJ.fin [(4, .int .i64 0)] rfl ?_
    refine J.ret ?_
    obtain rfl := Option.some.inj H
    exact ⟨_, _, _, (results_slots rfl), ⟨_, _, _, _, _, _, _, _, rfl, rfl⟩, h4.only [3, 3, 3, 2, 2, 2, 0, 0] rfl⟩
  replace H := ite_f c4 H
  refine J.skip ?_
  refine J.seq (J.region ?_)
  refine RJ.run ttok 1 rfl ?_
  refine RJ.fin [(4, .int .i64 0)] rfl ?_
  refine J.ret ?_
  obtain rfl := Option.some.inj H
  exact ⟨_, _, _, (results_slots rfl), ⟨_, _, _, _, _, _, _, _, rfl, rfl⟩, h2.only [1, 1, 1, 0, 0, 0, 0, 0] rfl⟩

def Q10.f (a0 : (Int × List (Int) × (Int × Int)) × (List (Int × List (Int) × Bool × Int)) × (List (Int × Int)) × List (Int) × ((List (Int × Int × Bool)) × Int)) (a1 : Int) (a2 : List (Int)) : Option (Int × ((Int × List (Int) × (Int × Int)) × (List (Int × List (Int) × Bool × Int)) × (List (Int × Int)) × List (Int) × ((List (Int × Int × Bool)) × Int))) := (Q12.f ((a0.1.1, a0.1.2.1, (a0.1.2.2.1, a0.1.2.2.2)), a0.2.1, a0.2.2.1, a0.2.2.2.1, (a0.2.2.2.2.1, a0.2.2.2.2.2))).bind fun r1 => (if r1 = true then (some (1, ((a0.1.1, a0.1.2.1, (a0.1.2.2.1, a0.1.2.2.2)), a0.2.1, a0.2.2.1, a0.2.2.2.1, (a0.2.2.2.2.1, a0.2.2.2.2.2)))) else (if (!(mhas a0.2.2.1 a1)) = true then (some (8, ((a0.1.1, a0.1.2.1, (a0.1.2.2.1, a0.1.2.2.2)), a0.2.1, a0.2.2.1, a0.2.2.2.1, (a0.2.2.2.2.1, a0.2.2.2.2.2)))) else (if 0 ≤ (mget (0 : Int) a0.2.2.1 a1) ∧ (mget (0 : Int) a0.2.2.1 a1) < (a0.2.1.length : Int) then (if (decide (((gt a0.2.1 (mget (0 : Int) a0.2.2.1 a1)).2.2.2) = 0)) = true then (some (8, ((a0.1.1, a0.1.2.1, (a0.1.2.2.1, a0.1.2.2.2)), a0.2.1, a0.2.2.1, a0.2.2.2.1, (a0.2.2.2.2.1, a0.2.2.2.2.2)))) else ((Q27.f (a0.1.1, a0.1.2.1, (a0.1.2.2.1, a0.1.2.2.2))).bind fun r2 => (if (!decide ((a2.length : Int) = r2)) = true then (some (3, ((a0.1.1, a0.1.2.1, (a0.1.2.2.1, a0.1.2.2.2)), a0.2.1, a0.2.2.1, a0.2.2.2.1, (a0.2.2.2.2.1, a0.2.2.2.2.2)))) else ((Q33.f a2).bind fun r3 => (some (0, ((a0.1.1, a0.1.2.1, (a0.1.2.2.1, a0.1.2.2.2)), ((a0.2.1.set (mget (0 : Int) a0.2.2.1 a1).toNat ((gt a0.2.1 (mget (0 : Int) a0.2.2.1 a1)).1, r3, (gt a0.2.1 (mget (0 : Int) a0.2.2.1 a1)).2.2.1, (gt a0.2.1 (mget (0 : Int) a0.2.2.1 a1)).2.2.2)).set (mget (0 : Int) a0.2.2.1 a1).toNat ((gt (a0.2.1.set (mget (0 : Int) a0.2.2.1 a1).toNat ((gt a0.2.1 (mget (0 : Int) a0.2.2.1 a1)).1, r3, (gt a0.2.1 (mget (0 : Int) a0.2.2.1 a1)).2.2.1, (gt a0.2.1 (mget (0 : Int) a0.2.2.1 a1)).2.2.2)) (mget (0 : Int) a0.2.2.1 a1)).1, (gt (a0.2.1.set (mget (0 : Int) a0.2.2.1 a1).toNat ((gt a0.2.1 (mget (0 : Int) a0.2.2.1 a1)).1, r3, (gt a0.2.1 (mget (0 : Int) a0.2.2.1 a1)).2.2.1, (gt a0.2.1 (mget (0 : Int) a0.2.2.1 a1)).2.2.2)) (mget (0 : Int) a0.2.2.1 a1)).2.1, true, (gt (a0.2.1.set (mget (0 : Int) a0.2.2.1 a1).toNat ((gt a0.2.1 (mget (0 : Int) a0.2.2.1 a1)).1, r3, (gt a0.2.1 (mget (0 : Int) a0.2.2.1 a1)).2.2.1, (gt a0.2.1 (mget (0 : Int) a0.2.2.1 a1)).2.2.2)) (mget (0 : Int) a0.2.2.1 a1)).2.2.2)), a0.2.2.1, a0.2.2.2.1, (a0.2.2.2.2.1, a0.2.2.2.2.2)))))))) else none)))
theorem Q10.spec {a0 : (Int × List (Int) × (Int × Int)) × (List (Int × List (Int) × Bool × Int)) × (List (Int × Int)) × List (Int) × ((List (Int × Int × Bool)) × Int)} {a1 : Int} {a2 : List (Int)} {A5 : Option Addr} {c_5 : Nat} {b1 : Nat} {b2 : Nat} {b3 : Nat} {b4 : Nat} {A1 : Option Addr} {c_1 : Nat} {A2 : Option Addr} {c_2 : Nat} {A3 : Option Addr} {c_3 : Nat} {A4 : Option Addr} {c_4 : Nat} {r : Int × ((Int × List (Int) × (Int × Int)) × (List (Int × List (Int) × Bool × Int)) × (List (Int × Int)) × List (Int) × ((List (Int × Int × Bool)) × Int))} (H : Q10.f a0 a1 a2 = some r) :
    Spec Try.prog 59 [.pointer (some ⟨b1, 0, none⟩), .int .u32 a1, .slice A5 a2.length c_5] [boxC b1 113 [.pointer (some ⟨b2, 0, none⟩), .slice A2 a0.2.1.length c_2, .map (some b3), .slice A3 a0.2.2.2.1.length c_3, .pointer (some ⟨b4, 0, none⟩)], boxC b2 51 [.int .i64 a0.1.1, .slice A1 a0.1.2.1.length c_1, .int .u64 a0.1.2.2.1, .int .u64 a0.1.2.2.2], ownC 5 (.int .u8) a0.1.2.1 (.slice A1 a0.1.2.1.length c_1), ownC 162 (.pair (.int .u32) (.pair (.slice 5 (.int .u8)) (.pair .bool (.int .i64)))) a0.2.1 (.slice A2 a0.2.1.length c_2), mapC .u32 (Value.int .i64) b3 a0.2.2.1, ownC 3 (.int .i64) a0.2.2.2.1 (.slice A3 a0.2.2.2.1.length c_3), boxC b4 203 [.slice A4 a0.2.2.2.2.1.length c_4, .int .i64 a0.2.2.2.2.2], ownC 205 (.pair (.int .i64) (.pair (.int .i64) .bool)) a0.2.2.2.2.1 (.slice A4 a0.2.2.2.2.1.length c_4)] [rdC 5 (.int .u8) a2 (.slice A5 a2.length c_5)] (fun v l => ∃ (A_0 : Option Addr) (c_0 : Nat) (A_1 : Option Addr) (c_1 : Nat) (A_2 : Option Addr) (c_2 : Nat) (A_3 : Option Addr) (c_3 : Nat), v = .int .i64 r.1 ∧ l = [boxC b1 113 [.pointer (some ⟨b2, 0, none⟩), .slice A_1 r.2.2.1.length c_1, .map (some b3), .slice A_2 r.2.2.2.2.1.length c_2, .pointer (some ⟨b4, 0, none⟩)], boxC b2 51 [.int .i64 r.2.1.1, .slice A_0 r.2.1.2.1.length c_0, .int .u64 r.2.1.2.2.1, .int .u64 r.2.1.2.2.2], ownC 5 (.int .u8) r.2.1.2.1 (.slice A_0 r.2.1.2.1.length c_0), ownC 162 (.pair (.int .u32) (.pair (.slice 5 (.int .u8)) (.pair .bool (.int .i64)))) r.2.2.1 (.slice A_1 r.2.2.1.length c_1), mapC .u32 (Value.int .i64) b3 r.2.2.2.1, ownC 3 (.int .i64) r.2.2.2.2.1 (.slice A_2 r.2.2.2.2.1.length c_2), boxC b4 203 [.slice A_3 r.2.2.2.2.2.1.length c_3, .int .i64 r.2.2.2.2.2.2], ownC 205 (.pair (.int .i64) (.pair (.int .i64) .bool)) r.2.2.2.2.2.1 (.slice A_3 r.2.2.2.2.2.1.length c_3)]) := by
  refine Spec.enter Try.func59 rfl (by kernel_rfl) (by kernel_rfl) fun w0 F0 h0 => ?_
  unfold Q10.f at H
  refine J.seq (J.region ?_)
  refine RJ.run ttok 1 rfl ?_
  refine RJ.fin [(0, .pointer (some ⟨b1, 0, none⟩)), (1, .int .u32 a1), (2, .slice A5 a2.length c_5)] rfl ?_
  refine J.seq (J.region ?_)
  refine RJ.run ttok 2 rfl ?_
  refine RJ.inline rfl rfl rfl rfl rfl Try.func99 rfl (by kernel_rfl) (by kernel_rfl) ?_
  refine J.seq (J.region ?_)
  refine RJ.run ttok 2 rfl ?_
  refine RJ.fin [(0, _), (1, _)] rfl ?_
  refine J.seq (J.seq (J.region ?_))
  refine RJ.run ttok 1 rfl ?_
  obtain ⟨r1, q1, H⟩ := bind_t H
  refine RJ.op rfl rfl (op_call [0, 0, 0, 0, 0, 0, 0, 0] (Q12.spec q1) rfl rfl rfl h0 rfl gnil) ?_
  rintro _ w1 ⟨_, ⟨rfl, rfl⟩, h1⟩
  replace h1 : St w0 F0 [boxC b1 113 [.pointer (some ⟨b2, 0, none⟩), .slice A2 a0.2.1.length c_2, .map (some b3), .slice A3 a0.2.2.2.1.length c_3, .pointer (some ⟨b4, 0, none⟩)], boxC b2 51 [.int .i64 a0.1.1, .slice A1 a0.1.2.1.length c_1, .int .u64 a0.1.2.2.1, .int .u64 a0.1.2.2.2], ownC 5 (.int .u8) a0.1.2.1 (.slice A1 a0.1.2.1.length c_1), ownC 162 (.pair (.int .u32) (.pair (.slice 5 (.int .u8)) (.pair .bool (.int .i64)))) a0.2.1 (.slice A2 a0.2.1.length c_2), mapC .u32 (Value.int .i64) b3 a0.2.2.1, ownC 3 (.int .i64) a0.2.2.2.1 (.slice A3 a0.2.2.2.1.length c_3), boxC b4 203 [.slice A4 a0.2.2.2.2.1.length c_4, .int .i64 a0.2.2.2.2.2], ownC 205 (.pair (.int .i64) (.pair (.int .i64) .bool)) a0.2.2.2.2.1 (.slice A4 a0.2.2.2.2.1.length c_4)] _ _ := h1
  refine RJ.fin [(0, _), (1, _), (9, .bool r1)] rfl ?_
  refine J.cond rfl (fun c1 => ?_) (fun c1 => ?_)
  · replace H := ite_t c1 H
    refine J.seq (J.region ?_)
    refine RJ.run ttok 2 rfl ?_
    refine RJ.fin [(4, .pointer none), (5, .int .i64 1)] rfl ?_
    refine J.ret ?_
    refine ⟨_, results_slots rfl, ?_⟩
    refine RJ.run ttok 5 rfl ?_
    refine RJ.fin [(0, .pointer (some ⟨b1, 0, none⟩)), (2, .slice A5 a2.length c_5), (7, .pointer none), (8, .int .i64 1)] rfl ?_
    refine J.seq (J.block (J.seq (J.region ?_)))
    refine RJ.run ttok 3 rfl ?_
    refine RJ.fin [(0, _), (2, _), (7, _), (8, _), (15, .bool true)] rfl ?_
    refine J.condT rfl ?_
    refine J.seq (J.region ?_)
    refine RJ.run ttok 2 rfl ?_
    refine RJ.fin [(6, .int .i64 1)] rfl ?_
    refine J.ret ?_
    obtain rfl := Option.some.inj H
    exact ⟨_, _, _, (results_slots rfl), ⟨_, _, _, _, _, _, _, _, rfl, rfl⟩, h1.only [0, 0, 0, 0, 0, 0, 0, 0] rfl⟩
  replace H := ite_f c1 H
  refine J.skip ?_
  refine J.seq (J.region ?_)
  refine RJ.run ttok 3 rfl ?_
  refine RJ.q rfl rfl (q_load_box ttok 0 h1.wht rfl rfl rfl rfl rfl) ?_
  refine RJ.run ttok 1 rfl ?_
  refine RJ.q rfl rfl (q_lookup_ok ttok (0 : Int) 4 h1.wht rfl rfl rfl rfl rfl rfl rfl rfl rfl rfl) ?_
  refine RJ.run ttok 5 rfl ?_
  refine RJ.fin [(0, _), (6, .int .i64 (mget (0 : Int) a0.2.2.1 a1)), (7, .bool (mhas a0.2.2.1 a1))] rfl ?_
  refine J.seq (J.seq (J.region ?_))
  refine RJ.run ttok 3 rfl ?_
  rcases Bool.eq_false_or_eq_true (!(mhas a0.2.2.1 a1)) with c2 | c2
  · replace H := ite_t c2 H
    refine RJ.know (t := 21) rfl (congrArg Value.bool c2) ?_
    refine RJ.run ttok 10 rfl ?_
    refine RJ.fin [(0, _), (6, _), (31, .bool true)] rfl ?_
    refine J.condT rfl ?_
    refine J.seq (J.region ?_)
    refine RJ.run ttok 2 rfl ?_
    refine RJ.fin [(4, .pointer none), (5, .int .i64 8)] rfl ?_
    refine J.ret ?_
    refine ⟨_, results_slots rfl, ?_⟩
    refine RJ.run ttok 5 rfl ?_
    refine RJ.fin [(0, .pointer (some ⟨b1, 0, none⟩)), (2, .slice A5 a2.length c_5), (7, .pointer none), (8, .int .i64 8)] rfl ?_
    refine J.seq (J.block (J.seq (J.region ?_)))
    refine RJ.run ttok 3 rfl ?_
    refine RJ.fin [(0, _), (2, _), (7, _), (8, _), (15, .bool true)] rfl ?_
    refine J.condT rfl ?_
    refine J.seq (J.region ?_)
    refine RJ.run ttok 2 rfl ?_
    refine RJ.fin [(6, .int .i64 8)] rfl ?_
    refine J.ret ?_
    obtain rfl := Option.some.inj H
    exact ⟨_, _, _, (results_slots rfl), ⟨_, _, _, _, _, _, _, _, rfl, rfl⟩, h1.only [0, 0, 0, 0, 0, 0, 0, 0] rfl⟩
  replace H := ite_f c2 H
  refine RJ.know (t := 21) rfl (congrArg Value.bool c2) ?_
  refine RJ.run ttok 3 rfl ?_
  refine RJ.q rfl rfl (q_load_box ttok 0 h1.wht rfl rfl rfl rfl rfl) ?_
  refine RJ.run ttok 1 rfl ?_
  obtain ⟨⟨p1, p2⟩, H⟩ := guard_t H
  have e1 := elem_A h1.wh (Gives.of 3 rfl own_rd) p1 p2
  refine RJ.q rfl rfl (q_index ttok rfl rfl rfl rfl rfl e1 p1 p2) ?_
  refine RJ.run ttok 1 rfl ?_
  refine RJ.q rfl rfl (q_load_deep (f := 3) ttok h1.wht (Gives.of 3 rfl own_rd) p1 p2 rfl rfl rfl rfl rfl rfl) ?_
  refine RJ.run ttok 2 rfl ?_
  refine RJ.fin [(0, _), (6, _), (31, .bool (decide (((gt a0.2.1 (mget (0 : Int) a0.2.2.1 a1)).2.2.2) = 0)))] rfl ?_
  refine J.cond rfl (fun c3 => ?_) (fun c3 => ?_)
  · replace H := ite_t c3 H
    refine J.seq (J.region ?_)
    refine RJ.run ttok 2 rfl ?_
    refine RJ.fin [(4, .pointer none), (5, .int .i64 8)] rfl ?_
    refine J.ret ?_
    refine ⟨_, results_slots rfl, ?_⟩
    refine RJ.run ttok 5 rfl ?_
    refine RJ.fin [(0, .pointer (some ⟨b1, 0, none⟩)), (2, .slice A5 a2.length c_5), (7, .pointer none), (8, .int .i64 8)] rfl ?_
    refine J.seq (J.block (J.seq (J.region ?_)))
    refine RJ.run ttok 3 rfl ?_
    refine RJ.fin [(0, _), (2, _), (7, _), (8, _), (15, .bool true)] rfl ?_
    refine J.condT rfl ?_
    refine J.seq (J.region ?_)
    refine RJ.run ttok 2 rfl ?_
    refine RJ.fin [(6, .int .i64 8)] rfl ?_
    refine J.ret ?_
    obtain rfl := Option.some.inj H
    exact ⟨_, _, _, (results_slots rfl), ⟨_, _, _, _, _, _, _, _, rfl, rfl⟩, h1.only [0, 0, 0, 0, 0, 0, 0, 0] rfl⟩
  replace H := ite_f c3 H
  refine J.skip ?_
  refine J.seq (J.region ?_)
  refine RJ.run ttok 3 rfl ?_
  refine RJ.q rfl rfl (q_load_box ttok 0 h1.wht rfl rfl rfl rfl rfl) ?_
  refine RJ.run ttok 1 rfl ?_
  refine RJ.q rfl rfl (q_index ttok rfl rfl rfl rfl rfl e1 p1 p2) ?_
  refine RJ.run ttok 2 rfl ?_
  refine RJ.fin [(4, .pointer (some ⟨blk A2, ofs A2 + (mget (0 : Int) a0.2.2.1 a1).toNat * 4, none⟩)), (5, .int .i64 0)] rfl ?_
  refine J.ret ?_
  refine ⟨_, results_slots rfl, ?_⟩
  refine RJ.run ttok 5 rfl ?_
  refine RJ.fin [(0, .pointer (some ⟨b1, 0, none⟩)), (2, .slice A5 a2.length c_5), (7, .pointer (some ⟨blk A2, ofs A2 + (mget (0 : Int) a0.2.2.1 a1).toNat * 4, none⟩)), (8, .int .i64 0)] rfl ?_
  refine J.seq (J.block (J.seq (J.region ?_)))
  refine RJ.run ttok 3 rfl ?_
  refine RJ.fin [(0, _), (2, _), (7, _), (8, _), (15, .bool false)] rfl ?_
  refine J.condF rfl ?_
  refine J.seq (J.region ?_)
  refine RJ.run ttok 5 rfl ?_
  refine RJ.q rfl rfl (q_load_box ttok 0 h1.wht rfl rfl rfl rfl rfl) ?_
  obtain ⟨r2, q2, H⟩ := bind_t H
  refine RJ.op rfl rfl (op_call [1, 1] (Q27.spec q2) rfl rfl rfl h1 rfl gnil) ?_
  rintro _ w2 ⟨_, ⟨rfl, rfl⟩, h2⟩
  replace h2 : St w0 F0 [_, _, _, _, _, _, _, _] _ _ := h2
  refine RJ.run ttok 2 rfl ?_
  refine RJ.fin [(2, _), (7, _), (19, .bool (!decide ((a2.length : Int) = r2)))] rfl ?_
  refine J.cond rfl (fun c4 => ?_) (fun c4 => ?_)
  · replace H := ite_t c4 H
    refine J.seq (J.region ?_)
    refine RJ.run ttok 1 rfl ?_
    refine RJ.fin [(6, .int .i64 3)] rfl ?_
    refine J.ret ?_
    obtain rfl := Option.some.inj H
    exact ⟨_, _, _, (results_slots rfl), ⟨_, _, _, _, _, _, _, _, rfl, rfl⟩, h2.only [2, 0, 0, 0, 0, 0, 0, 0] rfl⟩
  replace H := ite_f c4 H
  refine J.skip ?_
  refine J.seq (J.region ?_)
  refine RJ.run ttok 3 rfl ?_
  obtain ⟨r3, q3, H⟩ := bind_t H
  refine RJ.op rfl rfl (op_call [] (Q33.spec q3) rfl rfl rfl h2 rfl (gcons (Gives.self 8 rfl) gnil)) ?_
  rintro _ w3 ⟨_, ⟨A6, c_6, rfl, rfl⟩, h3⟩
  replace h3 : St w0 F0 [ownC 5 (.int .u8) r3 (.slice A6 r3.length c_6), _, _, _, _, _, _, _, _] _ _ := h3
  refine RJ.run ttok 2 rfl ?_
  have h4 := (h3.only [4, 0, 0, 0, 0, 0, 0, 0, 0] rfl).both
  refine RJ.op rfl rfl (op_store_eat (ty := (.pair (.int .u32) (.pair (.slice 5 (.int .u8)) (.pair .bool (.int .i64))))) (f := 1) (ix := (mget (0 : Int) a0.2.2.1 a1)) ttok ((gt a0.2.1 (mget (0 : Int) a0.2.2.1 a1)).1, r3, (gt a0.2.1 (mget (0 : Int) a0.2.2.1 a1)).2.2.1, (gt a0.2.1 (mget (0 : Int) a0.2.2.1 a1)).2.2.2) rfl h4 rfl p1 p2 rfl rfl rfl rfl rfl rfl hnew_b) ?_
  intro _ w4 h5
  replace h5 : St w0 F0 [ownC 162 (.pair (.int .u32) (.pair (.slice 5 (.int .u8)) (.pair .bool (.int .i64)))) (a0.2.1.set (mget (0 : Int) a0.2.2.1 a1).toNat ((gt a0.2.1 (mget (0 : Int) a0.2.2.1 a1)).1, r3, (gt a0.2.1 (mget (0 : Int) a0.2.2.1 a1)).2.2.1, (gt a0.2.1 (mget (0 : Int) a0.2.2.1 a1)).2.2.2)) (.slice A2 (a0.2.1.set (mget (0 : Int) a0.2.2.1 a1).toNat ((gt a0.2.1 (mget (0 : Int) a0.2.2.1 a1)).1, r3, (gt a0.2.1 (mget (0 : Int) a0.2.2.1 a1)).2.2.1, (gt a0.2.1 (mget (0 : Int) a0.2.2.1 a1)).2.2.2)).length c_2), _, _, _, _, _, _, _] _ _ := h5
  replace h5 : St w0 F0 [ownC 162 (.pair (.int .u32) (.pair (.slice 5 (.int .u8)) (.pair .bool (.int .i64)))) (a0.2.1.set (mget (0 : Int) a0.2.2.1 a1).toNat ((gt a0.2.1 (mget (0 : Int) a0.2.2.1 a1)).1, r3, (gt a0.2.1 (mget (0 : Int) a0.2.2.1 a1)).2.2.1, (gt a0.2.1 (mget (0 : Int) a0.2.2.1 a1)).2.2.2)) (.slice A2 (a0.2.1.set (mget (0 : Int) a0.2.2.1 a1).toNat ((gt a0.2.1 (mget (0 : Int) a0.2.2.1 a1)).1, r3, (gt a0.2.1 (mget (0 : Int) a0.2.2.1 a1)).2.2.1, (gt a0.2.1 (mget (0 : Int) a0.2.2.1 a1)).2.2.2)).length c_2), boxC b2 51 [.int .i64 a0.1.1, .slice A1 a0.1.2.1.length c_1, .int .u64 a0.1.2.2.1, .int .u64 a0.1.2.2.2], ownC 5 (.int .u8) a0.1.2.1 (.slice A1 a0.1.2.1.length c_1), boxC b1 113 [.pointer (some ⟨b2, 0, none⟩), .slice A2 (a0.2.1.set (mget (0 : Int) a0.2.2.1 a1).toNat ((gt a0.2.1 (mget (0 : Int) a0.2.2.1 a1)).1, r3, (gt a0.2.1 (mget (0 : Int) a0.2.2.1 a1)).2.2.1, (gt a0.2.1 (mget (0 : Int) a0.2.2.1 a1)).2.2.2)).length c_2, .map (some b3), .slice A3 a0.2.2.2.1.length c_3, .pointer (some ⟨b4, 0, none⟩)], mapC .u32 (Value.int .i64) b3 a0.2.2.1, ownC 3 (.int .i64) a0.2.2.2.1 (.slice A3 a0.2.2.2.1.length c_3), boxC b4 203 [.slice A4 a0.2.2.2.2.1.length c_4, .int .i64 a0.2.2.2.2.2], ownC 205 (.pair (.int .i64) (.pair (.int .i64) .bool)) a0.2.2.2.2.1 (.slice A4 a0.2.2.2.2.1.length c_4)] _ _ := h5.retell (by simp only [List.length_set])
  refine RJ.run ttok 2 rfl ?_
  refine RJ.op rfl rfl (op_store_deep (ty := (.pair (.int .u32) (.pair (.slice 5 (.int .u8)) (.pair .bool (.int .i64))))) (f := 2) (ix := (mget (0 : Int) a0.2.2.1 a1)) ttok ((gt (a0.2.1.set (mget (0 : Int) a0.2.2.1 a1).toNat ((gt a0.2.1 (mget (0 : Int) a0.2.2.1 a1)).1, r3, (gt a0.2.1 (mget (0 : Int) a0.2.2.1 a1)).2.2.1, (gt a0.2.1 (mget (0 : Int) a0.2.2.1 a1)).2.2.2)) (mget (0 : Int) a0.2.2.1 a1)).1, (gt (a0.2.1.set (mget (0 : Int) a0.2.2.1 a1).toNat ((gt a0.2.1 (mget (0 : Int) a0.2.2.1 a1)).1, r3, (gt a0.2.1 (mget (0 : Int) a0.2.2.1 a1)).2.2.1, (gt a0.2.1 (mget (0 : Int) a0.2.2.1 a1)).2.2.2)) (mget (0 : Int) a0.2.2.1 a1)).2.1, true, (gt (a0.2.1.set (mget (0 : Int) a0.2.2.1 a1).toNat ((gt a0.2.1 (mget (0 : Int) a0.2.2.1 a1)).1, r3, (gt a0.2.1 (mget (0 : Int) a0.2.2.1 a1)).2.2.1, (gt a0.2.1 (mget (0 : Int) a0.2.2.1 a1)).2.2.2)) (mget (0 : Int) a0.2.2.1 a1)).2.2.2) 0 rfl h5 rfl rfl p1 (by simpa only [List.length_set] using p2) rfl rfl rfl rfl rfl rfl (hnew_put rfl rfl)) ?_
  intro _ w5 h6
  replace h6 : St w0 F0 [ownC 162 (.pair (.int .u32) (.pair (.slice 5 (.int .u8)) (.pair .bool (.int .i64)))) ((a0.2.1.set (mget (0 : Int) a0.2.2.1 a1).toNat ((gt a0.2.1 (mget (0 : Int) a0.2.2.1 a1)).1, r3, (gt a0.2.1 (mget (0 : Int) a0.2.2.1 a1)).2.2.1, (gt a0.2.1 (mget (0 : Int) a0.2.2.1 a1)).2.2.2)).set (mget (0 : Int) a0.2.2.1 a1).toNat ((gt (a0.2.1.set (mget (0 : Int) a0.2.2.1 a1).toNat ((gt a0.2.1 (mget (0 : Int) a0.2.2.1 a1)).1, r3, (gt a0.2.1 (mget (0 : Int) a0.2.2.1 a1)).2.2.1, (gt a0.2.1 (mget (0 : Int) a0.2.2.1 a1)).2.2.2)) (mget (0 : Int) a0.2.2.1 a1)).1, (gt (a0.2.1.set (mget (0 : Int) a0.2.2.1 a1).toNat ((gt a0.2.1 (mget (0 : Int) a0.2.2.1 a1)).1, r3, (gt a0.2.1 (mget (0 : Int) a0.2.2.1 a1)).2.2.1, (gt a0.2.1 (mget (0 : Int) a0.2.2.1 a1)).2.2.2)) (mget (0 : Int) a0.2.2.1 a1)).2.1, true, (gt (a0.2.1.set (mget (0 : Int) a0.2.2.1 a1).toNat ((gt a0.2.1 (mget (0 : Int) a0.2.2.1 a1)).1, r3, (gt a0.2.1 (mget (0 : Int) a0.2.2.1 a1)).2.2.1, (gt a0.2.1 (mget (0 : Int) a0.2.2.1 a1)).2.2.2)) (mget (0 : Int) a0.2.2.1 a1)).2.2.2)) (.slice A2 ((a0.2.1.set (mget (0 : Int) a0.2.2.1 a1).toNat ((gt a0.2.1 (mget (0 : Int) a0.2.2.1 a1)).1, r3, (gt a0.2.1 (mget (0 : Int) a0.2.2.1 a1)).2.2.1, (gt a0.2.1 (mget (0 : Int) a0.2.2.1 a1)).2.2.2)).set (mget (0 : Int) a0.2.2.1 a1).toNat ((gt (a0.2.1.set (mget (0 : Int) a0.2.2.1 a1).toNat ((gt a0.2.1 (mget (0 : Int) a0.2.2.1 a1)).1, r3, (gt a0.2.1 (mget (0 : Int) a0.2.2.1 a1)).2.2.1, (gt a0.2.1 (mget (0 : Int) a0.2.2.1 a1)).2.2.2)) (mget (0 : Int) a0.2.2.1 a1)).1, (gt (a0.2.1.set (mget (0 : Int) a0.2.2.1 a1).toNat ((gt a0.2.1 (mget (0 : Int) a0.2.2.1 a1)).1, r3, (gt a0.2.1 (mget (0 : Int) a0.2.2.1 a1)).2.2.1, (gt a0.2.1 (mget (0 : Int) a0.2.2.1 a1)).2.2.2)) (mget (0 : Int) a0.2.2.1 a1)).2.1, true, (gt (a0.2.1.set (mget (0 : Int) a0.2.2.1 a1).toNat ((gt a0.2.1 (mget (0 : Int) a0.2.2.1 a1)).1, r3, (gt a0.2.1 (mget (0 : Int) a0.2.2.1 a1)).2.2.1, (gt a0.2.1 (mget (0 : Int) a0.2.2.1 a1)).2.2.2)) (mget (0 : Int) a0.2.2.1 a1)).2.2.2)).length c_2), _, _, boxC b1 113 [.pointer (some ⟨b2, 0, none⟩), .slice A2 (a0.2.1.set (mget (0 : Int) a0.2.2.1 a1).toNat ((gt a0.2.1 (mget (0 : Int) a0.2.2.1 a1)).1, r3, (gt a0.2.1 (mget (0 : Int) a0.2.2.1 a1)).2.2.1, (gt a0.2.1 (mget (0 : Int) a0.2.2.1 a1)).2.2.2)).length c_2, .map (some b3), .slice A3 a0.2.2.2.1.length c_3, .pointer (some ⟨b4, 0, none⟩)], _, _, _, _] _ _ := h6
  replace h6 : St w0 F0 [ownC 162 (.pair (.int .u32) (.pair (.slice 5 (.int .u8)) (.pair .bool (.int .i64)))) ((a0.2.1.set (mget (0 : Int) a0.2.2.1 a1).toNat ((gt a0.2.1 (mget (0 : Int) a0.2.2.1 a1)).1, r3, (gt a0.2.1 (mget (0 : Int) a0.2.2.1 a1)).2.2.1, (gt a0.2.1 (mget (0 : Int) a0.2.2.1 a1)).2.2.2)).set (mget (0 : Int) a0.2.2.1 a1).toNat ((gt (a0.2.1.set (mget (0 : Int) a0.2.2.1 a1).toNat ((gt a0.2.1 (mget (0 : Int) a0.2.2.1 a1)).1, r3, (gt a0.2.1 (mget (0 : Int) a0.2.2.1 a1)).2.2.1, (gt a0.2.1 (mget (0 : Int) a0.2.2.1 a1)).2.2.2)) (mget (0 : Int) a0.2.2.1 a1)).1, (gt (a0.2.1.set (mget (0 : Int) a0.2.2.1 a1).toNat ((gt a0.2.1 (mget (0 : Int) a0.2.2.1 a1)).1, r3, (gt a0.2.1 (mget (0 : Int) a0.2.2.1 a1)).2.2.1, (gt a0.2.1 (mget (0 : Int) a0.2.2.1 a1)).2.2.2)) (mget (0 : Int) a0.2.2.1 a1)).2.1, true, (gt (a0.2.1.set (mget (0 : Int) a0.2.2.1 a1).toNat ((gt a0.2.1 (mget (0 : Int) a0.2.2.1 a1)).1, r3, (gt a0.2.1 (mget (0 : Int) a0.2.2.1 a1)).2.2.1, (gt a0.2.1 (mget (0 : Int) a0.2.2.1 a1)).2.2.2)) (mget (0 : Int) a0.2.2.1 a1)).2.2.2)) (.slice A2 ((a0.2.1.set (mget (0 : Int) a0.2.2.1 a1).toNat ((gt a0.2.1 (mget (0 : Int) a0.2.2.1 a1)).1, r3, (gt a0.2.1 (mget (0 : Int) a0.2.2.1 a1)).2.2.1, (gt a0.2.1 (mget (0 : Int) a0.2.2.1 a1)).2.2.2)).set (mget (0 : Int) a0.2.2.1 a1).toNat ((gt (a0.2.1.set (mget (0 : Int) a0.2.2.1 a1).toNat ((gt a0.2.1 (mget (0 : Int) a0.2.2.1 a1)).1, r3, (gt a0.2.1 (mget (0 : Int) a0.2.2.1 a1)).2.2.1, (gt a0.2.1 (mget (0 : Int) a0.2.2.1 a1)).2.2.2)) (mget (0 : Int) a0.2.2.1 a1)).1, (gt (a0.2.1.set (mget (0 : Int) a0.2.2.1 a1).toNat ((gt a0.2.1 (mget (0 : Int) a0.2.2.1 a1)).1, r3, (gt a0.2.1 (mget (0 : Int) a0.2.2.1 a1)).2.2.1, (gt a0.2.1 (mget (0 : Int) a0.2.2.1 a1)).2.2.2)) (mget (0 : Int) a0.2.2.1 a1)).2.1, true, (gt (a0.2.1.set (mget (0 : Int) a0.2.2.1 a1).toNat ((gt a0.2.1 (mget (0 : Int) a0.2.2.1 a1)).1, r3, (gt a0.2.1 (mget (0 : Int) a0.2.2.1 a1)).2.2.1, (gt a0.2.1 (mget (0 : Int) a0.2.2.1 a1)).2.2.2)) (mget (0 : Int) a0.2.2.1 a1)).2.2.2)).length c_2), boxC b2 51 [.int .i64 a0.1.1, .slice A1 a0.1.2.1.length c_1, .int .u64 a0.1.2.2.1, .int .u64 a0.1.2.2.2], ownC 5 (.int .u8) a0.1.2.1 (.slice A1 a0.1.2.1.length c_1), boxC b1 113 [.pointer (some ⟨b2, 0, none⟩), .slice A2 ((a0.2.1.set (mget (0 : Int) a0.2.2.1 a1).toNat ((gt a0.2.1 (mget (0 : Int) a0.2.2.1 a1)).1, r3, (gt a0.2.1 (mget (0 : Int) a0.2.2.1 a1)).2.2.1, (gt a0.2.1 (mget (0 : Int) a0.2.2.1 a1)).2.2.2)).set (mget (0 : Int) a0.2.2.1 a1).toNat ((gt (a0.2.1.set (mget (0 : Int) a0.2.2.1 a1).toNat ((gt a0.2.1 (mget (0 : Int) a0.2.2.1 a1)).1, r3, (gt a0.2.1 (mget (0 : Int) a0.2.2.1 a1)).2.2.1, (gt a0.2.1 (mget (0 : Int) a0.2.2.1 a1)).2.2.2)) (mget (0 : Int) a0.2.2.1 a1)).1, (gt (a0.2.1.set (mget (0 : Int) a0.2.2.1 a1).toNat ((gt a0.2.1 (mget (0 : Int) a0.2.2.1 a1)).1, r3, (gt a0.2.1 (mget (0 : Int) a0.2.2.1 a1)).2.2.1, (gt a0.2.1 (mget (0 : Int) a0.2.2.1 a1)).2.2.2)) (mget (0 : Int) a0.2.2.1 a1)).2.1, true, (gt (a0.2.1.set (mget (0 : Int) a0.2.2.1 a1).toNat ((gt a0.2.1 (mget (0 : Int) a0.2.2.1 a1)).1, r3, (gt a0.2.1 (mget (0 : Int) a0.2.2.1 a1)).2.2.1, (gt a0.2.1 (mget (0 : Int) a0.2.2.1 a1)).2.2.2)) (mget (0 : Int) a0.2.2.1 a1)).2.2.2)).length c_2, .map (some b3), .slice A3 a0.2.2.2.1.length c_3, .pointer (some ⟨b4, 0, none⟩)], mapC .u32 (Value.int .i64) b3 a0.2.2.1, ownC 3 (.int .i64) a0.2.2.2.1 (.slice A3 a0.2.2.2.1.length c_3), boxC b4 203 [.slice A4 a0.2.2.2.2.1.length c_4, .int .i64 a0.2.2.2.2.2], ownC 205 (.pair (.int .i64) (.pair (.int .i64) .bool)) a0.2.2.2.2.1 (.slice A4 a0.2.2.2.2.1.length c_4)] _ _ := h6.retell (by simp only [List.length_set])
  refine RJ.fin [] rfl ?_
  refine J.seq (J.region ?_)
  refine RJ.run ttok 1 rfl ?_
  refine RJ.fin [(6, .int .i64 0)] rfl ?_
  refine J.ret ?_
  obtain rfl := Option.some.inj H
  exact ⟨_, _, _, (results_slots rfl), ⟨_, _, _, _, _, _, _, _, rfl, rfl⟩, h6.only [3, 1, 1, 0, 0, 0, 0, 0] rfl⟩

def Q3.f (a0 : (Int × List (Int) × (Int × Int)) × (List (Int × List (Int) × Bool × Int)) × (List (Int × Int)) × List (Int) × ((List (Int × Int × Bool)) × Int)) (a1 : Int) : Option (Int × ((Int × List (Int) × (Int × Int)) × (List (Int × List (Int) × Bool × Int)) × (List (Int × Int)) × List (Int) × ((List (Int × Int × Bool)) × Int))) := (Q12.f ((a0.1.1, a0.1.2.1, (a0.1.2.2.1, a0.1.2.2.2)), a0.2.1, a0.2.2.1, a0.2.2.2.1, (a0.2.2.2.2.1, a0.2.2.2.2.2))).bind fun r1 => (if r1 = true then (some (1, ((a0.1.1, a0.1.2.1, (a0.1.2.2.1, a0.1.2.2.2)), a0.2.1, a0.2.2.1, a0.2.2.2.1, (a0.2.2.2.2.1, a0.2.2.2.2.2)))) else (if (!(mhas a0.2.2.1 a1)) = true then (some (0, ((a0.1.1, a0.1.2.1, (a0.1.2.2.1, a0.1.2.2.2)), a0.2.1, a0.2.2.1, a0.2.2.2.1, (a0.2.2.2.2.1, a0.2.2.2.2.2)))) else (if 0 ≤ (mget (0 : Int) a0.2.2.1 a1) ∧ (mget (0 : Int) a0.2.2.1 a1) < (a0.2.1.length : Int) then (if (decide (0 < ((gt a0.2.1 (mget (0 : Int) a0.2.2.1 a1)).2.2.2))) = true then (some (8, ((a0.1.1, a0.1.2.1, (a0.1.2.2.1, a0.1.2.2.2)), a0.2.1, a0.2.2.1, a0.2.2.2.1, (a0.2.2.2.2.1, a0.2.2.2.2.2)))) else ((Q11.f ((a0.1.1, a0.1.2.1, (a0.1.2.2.1, a0.1.2.2.2)), a0.2.1, a0.2.2.1, a0.2.2.2.1, (a0.2.2.2.2.1, a0.2.2.2.2.2)) (mget (0 : Int) a0.2.2.1 a1)).bind fun r2 => (some (0, ((r2.1.1, r2.1.2.1, (r2.1.2.2.1, r2.1.2.2.2)), r2.2.1, r2.2.2.1, r2.2.2.2.1, (r2.2.2.2.2.1, r2.2.2.2.2.2)))))) else none)))
theorem Q3.spec {a0 : (Int × List (Int) × (Int × Int)) × (List (Int × List (Int) × Bool × Int)) × (List (Int × Int)) × List (Int) × ((List (Int × Int × Bool)) × Int)} {a1 : Int} {b1 : Nat} {b2 : Nat} {b3 : Nat} {b4 : Nat} {A1 : Option Addr} {c_1 : Nat} {A2 : Option Addr} {c_2 : Nat} {A3 : Option Addr} {c_3 : Nat} {A4 : Option Addr} {c_4 : Nat} {r : Int × ((Int × List (Int) × (Int × Int)) × (List (Int × List (Int) × Bool × Int)) × (List (Int × Int)) × List (Int) × ((List (Int × Int × Bool)) × Int))} (H : Q3.f a0 a1 = some r) :
    Spec Try.prog 60 [.pointer (some ⟨b1, 0, none⟩), .int .u32 a1] [boxC b1 113 [.pointer (some ⟨b2, 0, none⟩), .slice A2 a0.2.1.length c_2, .map (some b3), .slice A3 a0.2.2.2.1.length c_3, .pointer (some ⟨b4, 0, none⟩)], boxC b2 51 [.int .i64 a0.1.1, .slice A1 a0.1.2.1.length c_1, .int .u64 a0.1.2.2.1, .int .u64 a0.1.2.2.2], ownC 5 (.int .u8) a0.1.2.1 (.slice A1 a0.1.2.1.length c_1), ownC 162 (.pair (.int .u32) (.pair (.slice 5 (.int .u8)) (.pair .bool (.int .i64)))) a0.2.1 (.slice A2 a0.2.1.length c_2), mapC .u32 (Value.int .i64) b3 a0.2.2.1, ownC 3 (.int .i64) a0.2.2.2.1 (.slice A3 a0.2.2.2.1.length c_3), boxC b4 203 [.slice A4 a0.2.2.2.2.1.length c_4, .int .i64 a0.2.2.2.2.2], ownC 205 (.pair (.int .i64) (.pair (.int .i64) .bool)) a0.2.2.2.2.1 (.slice A4 a0.2.2.2.2.1.length c_4)] [] (fun v l => ∃ (A_0 : Option Addr) (c_0 : Nat) (A_1 : Option Addr) (c_1 : Nat) (A_2 : Option Addr) (c_2 : Nat) (A_3 : Option Addr) (c_3 : Nat), v = .int .i64 r.1 ∧ l = [boxC b1 113 [.pointer (some ⟨b2, 0, none⟩), .slice A_1 r.2.2.1.length c_1, .map (some b3), .slice A_2 r.2.2.2.2.1.length c_2, .pointer (some ⟨b4, 0, none⟩)], boxC b2 51 [.int .i64 r.2.1.1, .slice A_0 r.2.1.2.1.length c_0, .int .u64 r.2.1.2.2.1, .int .u64 r.2.1.2.2.2], ownC 5 (.int .u8) r.2.1.2.1 (.slice A_0 r.2.1.2.1.length c_0), ownC 162 (.pair (.int .u32) (.pair (.slice 5 (.int .u8)) (.pair .bool (.int .i64)))) r.2.2.1 (.slice A_1 r.2.2.1.length c_1), mapC .u32 (Value.int .i64) b3 r.2.2.2.1, ownC 3 (.int .i64) r.2.2.2.2.1 (.slice A_2 r.2.2.2.2.1.length c_2), boxC b4 203 [.slice A_3 r.2.2.2.2.2.1.length c_3, .int .i64 r.2.2.2.2.2.2], ownC 205 (.pair (.int .i64) (.pair (.int .i64) .bool)) r.2.2.2.2.2.1 (.slice A_3 r.2.2.2.2.2.1.length c_3)]) := by
  refine Spec.enter Try.func60 rfl (by kernel_rfl) (by kernel_rfl) fun w0 F0 h0 => ?_
  unfold Q3.f at H
  refine J.seq (J.region ?_)
  refine RJ.run ttok 1 rfl ?_
  refine RJ.fin [(0, .pointer (some ⟨b1, 0, none⟩)), (1, .int .u32 a1)] rfl ?_
  refine J.seq (J.seq (J.region ?_))
  refine RJ.run ttok 1 rfl ?_
  obtain ⟨r1, q1, H⟩ := bind_t H
  refine RJ.op rfl rfl (op_call [0, 0, 0, 0, 0, 0, 0, 0] (Q12.spec q1) rfl rfl rfl h0 rfl gnil) ?_
  rintro _ w1 ⟨_, ⟨rfl, rfl⟩, h1⟩
  replace h1 : St w0 F0 [boxC b1 113 [.pointer (some ⟨b2, 0, none⟩), .slice A2 a0.2.1.length c_2, .map (some b3), .slice A3 a0.2.2.2.1.length c_3, .pointer (some ⟨b4, 0, none⟩)], boxC b2 51 [.int .i64 a0.1.1, .slice A1 a0.1.2.1.length c_1, .int .u64 a0.1.2.2.1, .int .u64 a0.1.2.2.2], ownC 5 (.int .u8) a0.1.2.1 (.slice A1 a0.1.2.1.length c_1), ownC 162 (.pair (.int .u32) (.pair (.slice 5 (.int .u8)) (.pair .bool (.int .i64)))) a0.2.1 (.slice A2 a0.2.1.length c_2), mapC .u32 (Value.int .i64) b3 a0.2.2.1, ownC 3 (.int .i64) a0.2.2.2.1 (.slice A3 a0.2.2.2.1.length c_3), boxC b4 203 [.slice A4 a0.2.2.2.2.1.length c_4, .int .i64 a0.2.2.2.2.2], ownC 205 (.pair (.int .i64) (.pair (.int .i64) .bool)) a0.2.2.2.2.1 (.slice A4 a0.2.2.2.2.1.length c_4)] _ _ := h1
  refine RJ.fin [(0, _), (1, _), (8, .bool r1)] rfl ?_
  refine J.cond rfl (fun c1 => ?_) (fun c1 => ?_)
  · replace H := ite_t c1 H
    refine J.seq (J.region ?_)
    refine RJ.run ttok 1 rfl ?_
    refine RJ.fin [(4, .int .i64 1)] rfl ?_
    refine J.ret ?_
    obtain rfl := Option.some.inj H
    exact ⟨_, _, _, (results_slots rfl), ⟨_, _, _, _, _, _, _, _, rfl, rfl⟩, h1.only [0, 0, 0, 0, 0, 0, 0, 0] rfl⟩
  replace H := ite_f c1 H
  refine J.skip ?_
  refine J.seq (J.region ?_)
  refine RJ.run ttok 3 rfl ?_
  refine RJ.q rfl rfl (q_load_box ttok 0 h1.wht rfl rfl rfl rfl rfl) ?_
  refine RJ.run ttok 1 rfl ?_
  refine RJ.q rfl rfl (q_lookup_ok ttok (0 : Int) 4 h1.wht rfl rfl rfl rfl rfl rfl rfl rfl rfl rfl) ?_
  refine RJ.run ttok 5 rfl ?_
  refine RJ.fin [(0, _), (5, .int .i64 (mget (0 : Int) a0.2.2.1 a1)), (6, .bool (mhas a0.2.2.1 a1))] rfl ?_
  refine J.seq (J.block (J.seq (J.region ?_)))
  refine RJ.run ttok 3 rfl ?_
  refine RJ.fin [(0, _), (5, _), (18, .bool (!(mhas a0.2.2.1 a1)))] rfl ?_
  refine J.cond rfl (fun c2 => ?_) (fun c2 => ?_)
  · replace H := ite_t c2 H
    refine J.seq (J.region ?_)
    refine RJ.run ttok 1 rfl ?_
    refine RJ.fin [(4, .int .i64 0)] rfl ?_
    refine J.ret ?_
    obtain rfl := Option.some.inj H
    exact ⟨_, _, _, (results_slots rfl), ⟨_, _, _, _, _, _, _, _, rfl, rfl⟩, h1.only [0, 0, 0, 0, 0, 0, 0, 0] rfl⟩
  replace H := ite_f c2 H
  refine J.seq (J.region ?_)
  refine RJ.run ttok 3 rfl ?_
  refine RJ.q rfl rfl (q_load_box ttok 0 h1.wht rfl rfl rfl rfl rfl) ?_
  refine RJ.run ttok 1 rfl ?_
  obtain ⟨⟨p1, p2⟩, H⟩ := guard_t H
  have e1 := elem_A h1.wh (Gives.of 3 rfl own_rd) p1 p2
  refine RJ.q rfl rfl (q_index ttok rfl rfl rfl rfl rfl e1 p1 p2) ?_
  refine RJ.run ttok 1 rfl ?_
  refine RJ.q rfl rfl (q_load_deep (f := 3) ttok h1.wht (Gives.of 3 rfl own_rd) p1 p2 rfl rfl rfl rfl rfl rfl) ?_
  refine RJ.run ttok 2 rfl ?_
  refine RJ.fin [(0, _), (5, _), (21, .bool (decide (0 < ((gt a0.2.1 (mget (0 : Int) a0.2.2.1 a1)).2.2.2))))] rfl ?_
  refine J.cond rfl (fun c3 => ?_) (fun c3 => ?_)
  · replace H := ite_t c3 H
    refine J.seq (J.region ?_)
    refine RJ.run ttok 1 rfl ?_
    refine RJ.fin [(4, .int .i64 8)] rfl ?_
    refine J.ret ?_
    obtain rfl := Option.some.inj H
    exact ⟨_, _, _, (results_slots rfl), ⟨_, _, _, _, _, _, _, _, rfl, rfl⟩, h1.only [0, 0, 0, 0, 0, 0, 0, 0] rfl⟩
  replace H := ite_f c3 H
  refine J.skip ?_
  refine J.seq (J.region ?_)
  refine RJ.run ttok 2 rfl ?_
  obtain ⟨r2, q2, H⟩ := bind_t H
  refine RJ.op rfl rfl (op_call [0, 0, 0, 0, 0, 0, 0, 0] (Q11.spec q2) rfl rfl rfl h1 rfl gnil) ?_
  rintro _ w2 ⟨_, ⟨A5, c_5, A6, c_6, A7, c_7, A8, c_8, rfl, rfl⟩, h2⟩
  replace h2 : St w0 F0 [boxC b1 113 [.pointer (some ⟨b2, 0, none⟩), .slice A6 r2.2.1.length c_6, .map (some b3), .slice A7 r2.2.2.2.1.length c_7, .pointer (some ⟨b4, 0, none⟩)], boxC b2 51 [.int .i64 r2.1.1, .slice A5 r2.1.2.1.length c_5, .int .u64 r2.1.2.2.1, .int .u64 r2.1.2.2.2], ownC 5 (.int .u8) r2.1.2.1 (.slice A5 r2.1.2.1.length c_5), ownC 162 (.pair (.int .u32) (.pair (.slice 5 (.int .u8)) (.pair .bool (.int .i64)))) r2.2.1 (.slice A6 r2.2.1.length c_6), mapC .u32 (Value.int .i64) b3 r2.2.2.1, ownC 3 (.int .i64) r2.2.2.2.1 (.slice A7 r2.2.2.2.1.length c_7), boxC b4 203 [.slice A8 r2.2.2.2.2.1.length c_8, .int .i64 r2.2.2.2.2.2], ownC 205 (.pair (.int .i64) (.pair (.int .i64) .bool)) r2.2.2.2.2.1 (.slice A8 r2.2.2.2.2.1.length c_8)] _ _ := h2
  refine RJ.fin [] rfl ?_
  refine J.seq (J.region ?_)
  refine RJ.run ttok 1 rfl ?_
  refine RJ.fin [(4, .int .i64 0)] rfl ?_
  refine J.ret ?_
  obtain rfl := Option.some.inj H
  exact ⟨_, _, _, (results_slots rfl), ⟨_, _, _, _, _, _, _, _, rfl, rfl⟩, h2.only [0, 0, 0, 0, 0, 0, 0, 0] rfl⟩

end Go.SK.T
