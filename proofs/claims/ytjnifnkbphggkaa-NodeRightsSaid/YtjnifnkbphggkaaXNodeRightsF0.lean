/- The types of the program, and its functions as the code computes them, each proved. -/
import Derived.Test.YtjnifnkbphggkaaKy
import Derived.Test.YtjnifnkbphggkaaProg
set_option linter.unusedVariables false
set_option linter.unusedSimpArgs false
namespace Go.SK.T
open Go Go.SK Go.Proofs
def tt : TT := [(1, ⟨.func, 1, 8, .nilFunc⟩),
  (2, ⟨.int .i64, 1, 8, .int .i64 0⟩),
  (3, ⟨.int .i64, 1, 8, .int .i64 0⟩),
  (4, ⟨.bool, 1, 1, .bool false⟩),
  (5, ⟨.int .u8, 1, 1, .int .u8 0⟩),
  (6, ⟨.int .u8, 1, 1, .int .u8 0⟩),
  (9, ⟨.str, 1, 16, .string ⟨⟨[]⟩⟩⟩),
  (10, ⟨.str, 1, 16, .string ⟨⟨[]⟩⟩⟩),
  (11, ⟨.str, 1, 16, .string ⟨⟨[]⟩⟩⟩),
  (12, ⟨.int .u64, 1, 8, .int .u64 0⟩),
  (15, ⟨.ptr 157, 1, 8, .pointer none⟩),
  (16, ⟨.ptr 160, 1, 8, .pointer none⟩),
  (17, ⟨.ptr 168, 1, 8, .pointer none⟩),
  (20, ⟨.iface, 1, 16, .nilIface⟩),
  (21, ⟨.int .i32, 1, 4, .int .i32 0⟩),
  (22, ⟨.struct [(3, 0, 1), (3, 1, 1), (3, 2, 1), (3, 3, 1), (3, 4, 1), (3, 5, 1), (3, 6, 1), (3, 7, 1)], 8, 64, .agg #[.int .i64 0, .int .i64 0, .int .i64 0, .int .i64 0, .int .i64 0, .int .i64 0, .int .i64 0, .int .i64 0]⟩),
  (23, ⟨.struct [(3, 0, 1), (3, 1, 1), (3, 2, 1), (3, 3, 1), (3, 4, 1), (3, 5, 1), (3, 6, 1), (3, 7, 1)], 8, 64, .agg #[.int .i64 0, .int .i64 0, .int .i64 0, .int .i64 0, .int .i64 0, .int .i64 0, .int .i64 0, .int .i64 0]⟩),
  (24, ⟨.struct [(9, 0, 1), (9, 1, 1), (4, 2, 1)], 3, 40, .agg #[.string ⟨⟨[]⟩⟩, .string ⟨⟨[]⟩⟩, .bool false]⟩),
  (25, ⟨.struct [(9, 0, 1), (9, 1, 1), (4, 2, 1)], 3, 40, .agg #[.string ⟨⟨[]⟩⟩, .string ⟨⟨[]⟩⟩, .bool false]⟩),
  (26, ⟨.slice 46, 1, 24, .slice none 0 0⟩),
  (27, ⟨.slice 9, 1, 24, .slice none 0 0⟩),
  (28, ⟨.slice 48, 1, 24, .slice none 0 0⟩),
  (29, ⟨.slice 50, 1, 24, .slice none 0 0⟩),
  (30, ⟨.struct [(3, 0, 1), (26, 1, 1), (27, 2, 1), (28, 3, 1), (29, 4, 1)], 5, 104, .agg #[.int .i64 0, .slice none 0 0, .slice none 0 0, .slice none 0 0, .slice none 0 0]⟩),
  (31, ⟨.struct [(3, 0, 1), (26, 1, 1), (27, 2, 1), (28, 3, 1), (29, 4, 1)], 5, 104, .agg #[.int .i64 0, .slice none 0 0, .slice none 0 0, .slice none 0 0, .slice none 0 0]⟩),
  (32, ⟨.func, 1, 8, .nilFunc⟩),
  (33, ⟨.func, 1, 8, .nilFunc⟩),
  (35, ⟨.func, 1, 8, .nilFunc⟩),
  (37, ⟨.func, 1, 8, .nilFunc⟩),
  (38, ⟨.func, 1, 8, .nilFunc⟩),
  (39, ⟨.func, 1, 8, .nilFunc⟩),
  (40, ⟨.func, 1, 8, .nilFunc⟩),
  (41, ⟨.func, 1, 8, .nilFunc⟩),
  (42, ⟨.func, 1, 8, .nilFunc⟩),
  (43, ⟨.func, 1, 8, .nilFunc⟩),
  (44, ⟨.func, 1, 8, .nilFunc⟩),
  (45, ⟨.func, 1, 8, .nilFunc⟩),
  (46, ⟨.int .u32, 1, 4, .int .u32 0⟩),
  (47, ⟨.struct [(9, 0, 1), (4, 1, 1), (9, 2, 1)], 3, 40, .agg #[.string ⟨⟨[]⟩⟩, .bool false, .string ⟨⟨[]⟩⟩]⟩),
  (48, ⟨.struct [(9, 0, 1), (4, 1, 1), (9, 2, 1)], 3, 40, .agg #[.string ⟨⟨[]⟩⟩, .bool false, .string ⟨⟨[]⟩⟩]⟩),
  (49, ⟨.struct [(9, 0, 1), (9, 1, 1)], 2, 32, .agg #[.string ⟨⟨[]⟩⟩, .string ⟨⟨[]⟩⟩]⟩),
  (50, ⟨.struct [(9, 0, 1), (9, 1, 1)], 2, 32, .agg #[.string ⟨⟨[]⟩⟩, .string ⟨⟨[]⟩⟩]⟩),
  (51, ⟨.slice 3, 1, 24, .slice none 0 0⟩),
  (52, ⟨.func, 1, 8, .nilFunc⟩),
  (54, ⟨.func, 1, 8, .nilFunc⟩),
  (55, ⟨.map 3 4, 1, 8, .map none⟩),
  (56, ⟨.func, 1, 8, .nilFunc⟩),
  (57, ⟨.func, 1, 8, .nilFunc⟩),
  (59, ⟨.func, 1, 8, .nilFunc⟩),
  (60, ⟨.func, 1, 8, .nilFunc⟩),
  (61, ⟨.func, 1, 8, .nilFunc⟩),
  (62, ⟨.func, 1, 8, .nilFunc⟩),
  (63, ⟨.func, 1, 8, .nilFunc⟩),
  (64, ⟨.func, 1, 8, .nilFunc⟩),
  (65, ⟨.func, 1, 8, .nilFunc⟩),
  (67, ⟨.func, 1, 8, .nilFunc⟩),
  (68, ⟨.func, 1, 8, .nilFunc⟩),
  (69, ⟨.func, 1, 8, .nilFunc⟩),
  (71, ⟨.func, 1, 8, .nilFunc⟩),
  (72, ⟨.func, 1, 8, .nilFunc⟩),
  (73, ⟨.func, 1, 8, .nilFunc⟩),
  (74, ⟨.func, 1, 8, .nilFunc⟩),
  (75, ⟨.func, 1, 8, .nilFunc⟩),
  (76, ⟨.func, 1, 8, .nilFunc⟩),
  (78, ⟨.func, 1, 8, .nilFunc⟩),
  (79, ⟨.func, 1, 8, .nilFunc⟩),
  (80, ⟨.func, 1, 8, .nilFunc⟩),
  (81, ⟨.func, 1, 8, .nilFunc⟩),
  (82, ⟨.func, 1, 8, .nilFunc⟩),
  (83, ⟨.func, 1, 8, .nilFunc⟩),
  (84, ⟨.func, 1, 8, .nilFunc⟩),
  (85, ⟨.func, 1, 8, .nilFunc⟩),
  (86, ⟨.func, 1, 8, .nilFunc⟩),
  (87, ⟨.func, 1, 8, .nilFunc⟩),
  (88, ⟨.ptr 90, 1, 8, .pointer none⟩),
  (89, ⟨.slice 93, 1, 24, .slice none 0 0⟩),
  (90, ⟨.slice 93, 1, 24, .slice none 0 0⟩),
  (91, ⟨.func, 1, 8, .nilFunc⟩),
  (92, ⟨.struct [(3, 0, 1), (3, 1, 1)], 2, 16, .agg #[.int .i64 0, .int .i64 0]⟩),
  (93, ⟨.struct [(3, 0, 1), (3, 1, 1)], 2, 16, .agg #[.int .i64 0, .int .i64 0]⟩),
  (94, ⟨.func, 1, 8, .nilFunc⟩),
  (96, ⟨.func, 1, 8, .nilFunc⟩),
  (97, ⟨.func, 1, 8, .nilFunc⟩),
  (98, ⟨.func, 1, 8, .nilFunc⟩),
  (99, ⟨.func, 1, 8, .nilFunc⟩),
  (100, ⟨.func, 1, 8, .nilFunc⟩),
  (101, ⟨.func, 1, 8, .nilFunc⟩),
  (102, ⟨.func, 1, 8, .nilFunc⟩),
  (103, ⟨.func, 1, 8, .nilFunc⟩),
  (104, ⟨.func, 1, 8, .nilFunc⟩),
  (105, ⟨.func, 1, 8, .nilFunc⟩),
  (106, ⟨.func, 1, 8, .nilFunc⟩),
  (107, ⟨.func, 1, 8, .nilFunc⟩),
  (108, ⟨.func, 1, 8, .nilFunc⟩),
  (109, ⟨.func, 1, 8, .nilFunc⟩),
  (110, ⟨.func, 1, 8, .nilFunc⟩),
  (111, ⟨.iface, 1, 16, .nilIface⟩),
  (112, ⟨.iface, 1, 16, .nilIface⟩),
  (113, ⟨.func, 1, 8, .nilFunc⟩),
  (114, ⟨.func, 1, 8, .nilFunc⟩),
  (115, ⟨.func, 1, 8, .nilFunc⟩),
  (116, ⟨.func, 1, 8, .nilFunc⟩),
  (117, ⟨.func, 1, 8, .nilFunc⟩),
  (118, ⟨.int .u64, 1, 8, .int .u64 0⟩),
  (119, ⟨.func, 1, 8, .nilFunc⟩),
  (120, ⟨.func, 1, 8, .nilFunc⟩),
  (121, ⟨.func, 1, 8, .nilFunc⟩),
  (122, ⟨.func, 1, 8, .nilFunc⟩),
  (123, ⟨.func, 1, 8, .nilFunc⟩),
  (124, ⟨.func, 1, 8, .nilFunc⟩),
  (125, ⟨.func, 1, 8, .nilFunc⟩),
  (126, ⟨.func, 1, 8, .nilFunc⟩),
  (127, ⟨.func, 1, 8, .nilFunc⟩),
  (128, ⟨.func, 1, 8, .nilFunc⟩),
  (129, ⟨.func, 1, 8, .nilFunc⟩),
  (130, ⟨.func, 1, 8, .nilFunc⟩),
  (131, ⟨.func, 1, 8, .nilFunc⟩),
  (132, ⟨.func, 1, 8, .nilFunc⟩),
  (133, ⟨.func, 1, 8, .nilFunc⟩),
  (134, ⟨.func, 1, 8, .nilFunc⟩),
  (135, ⟨.func, 1, 8, .nilFunc⟩),
  (136, ⟨.int .i64, 1, 8, .int .i64 0⟩),
  (138, ⟨.func, 1, 8, .nilFunc⟩),
  (139, ⟨.func, 1, 8, .nilFunc⟩),
  (140, ⟨.func, 1, 8, .nilFunc⟩),
  (141, ⟨.func, 1, 8, .nilFunc⟩),
  (142, ⟨.func, 1, 8, .nilFunc⟩),
  (143, ⟨.func, 1, 8, .nilFunc⟩),
  (144, ⟨.func, 1, 8, .nilFunc⟩),
  (145, ⟨.int .u64, 1, 8, .int .u64 0⟩),
  (146, ⟨.int .u64, 1, 8, .int .u64 0⟩),
  (147, ⟨.func, 1, 8, .nilFunc⟩),
  (148, ⟨.func, 1, 8, .nilFunc⟩),
  (149, ⟨.func, 1, 8, .nilFunc⟩),
  (150, ⟨.ptr 3, 1, 8, .pointer none⟩),
  (151, ⟨.func, 1, 8, .nilFunc⟩),
  (152, ⟨.func, 1, 8, .nilFunc⟩),
  (153, ⟨.ptr 146, 1, 8, .pointer none⟩),
  (154, ⟨.func, 1, 8, .nilFunc⟩),
  (155, ⟨.func, 1, 8, .nilFunc⟩),
  (161, ⟨.int .u8, 1, 1, .int .u8 0⟩),
  (162, ⟨.int .u8, 1, 1, .int .u8 0⟩),
  (163, ⟨.func, 1, 8, .nilFunc⟩),
  (164, ⟨.ptr 5, 1, 8, .pointer none⟩),
  (165, ⟨.int .i32, 1, 4, .int .i32 0⟩),
  (166, ⟨.int .i32, 1, 4, .int .i32 0⟩)]
theorem ttok : TTok Try.prog tt := by
  refine ttok_cons ⟨by kernel_rfl, ⟨_, _, _, Try.underlying1⟩⟩ ?_
  refine ttok_cons ⟨by kernel_rfl, Try.underlying2⟩ ?_
  refine ttok_cons ⟨by kernel_rfl, Try.underlying3⟩ ?_
  refine ttok_cons ⟨by kernel_rfl, Try.underlying4⟩ ?_
  refine ttok_cons ⟨by kernel_rfl, Try.underlying5⟩ ?_
  refine ttok_cons ⟨by kernel_rfl, Try.underlying6⟩ ?_
  refine ttok_cons ⟨by kernel_rfl, Try.underlying9⟩ ?_
  refine ttok_cons ⟨by kernel_rfl, Try.underlying10⟩ ?_
  refine ttok_cons ⟨by kernel_rfl, Try.underlying11⟩ ?_
  refine ttok_cons ⟨by kernel_rfl, Try.underlying12⟩ ?_
  refine ttok_cons ⟨by kernel_rfl, Try.underlying15⟩ ?_
  refine ttok_cons ⟨by kernel_rfl, Try.underlying16⟩ ?_
  refine ttok_cons ⟨by kernel_rfl, Try.underlying17⟩ ?_
  refine ttok_cons ⟨by kernel_rfl, ⟨_, Try.underlying20⟩⟩ ?_
  refine ttok_cons ⟨by kernel_rfl, Try.underlying21⟩ ?_
  refine ttok_cons ⟨by kernel_rfl, ⟨_, Try.underlying22, by kernel_rfl, by kernel_rfl, by kernel_rfl, by kernel_rfl, by kernel_rfl, by kernel_rfl⟩⟩ ?_
  refine ttok_cons ⟨by kernel_rfl, ⟨_, Try.underlying23, by kernel_rfl, by kernel_rfl, by kernel_rfl, by kernel_rfl, by kernel_rfl, by kernel_rfl⟩⟩ ?_
  refine ttok_cons ⟨by kernel_rfl, ⟨_, Try.underlying24, by kernel_rfl, by kernel_rfl, by kernel_rfl, by kernel_rfl, by kernel_rfl, by kernel_rfl⟩⟩ ?_
  refine ttok_cons ⟨by kernel_rfl, ⟨_, Try.underlying25, by kernel_rfl, by kernel_rfl, by kernel_rfl, by kernel_rfl, by kernel_rfl, by kernel_rfl⟩⟩ ?_
  refine ttok_cons ⟨by kernel_rfl, Try.underlying26⟩ ?_
  refine ttok_cons ⟨by kernel_rfl, Try.underlying27⟩ ?_
  refine ttok_cons ⟨by kernel_rfl, Try.underlying28⟩ ?_
  refine ttok_cons ⟨by kernel_rfl, Try.underlying29⟩ ?_
  refine ttok_cons ⟨by kernel_rfl, ⟨_, Try.underlying30, by kernel_rfl, by kernel_rfl, by kernel_rfl, by kernel_rfl, by kernel_rfl, by kernel_rfl⟩⟩ ?_
  refine ttok_cons ⟨by kernel_rfl, ⟨_, Try.underlying31, by kernel_rfl, by kernel_rfl, by kernel_rfl, by kernel_rfl, by kernel_rfl, by kernel_rfl⟩⟩ ?_
  refine ttok_cons ⟨by kernel_rfl, ⟨_, _, _, Try.underlying32⟩⟩ ?_
  refine ttok_cons ⟨by kernel_rfl, ⟨_, _, _, Try.underlying33⟩⟩ ?_
  refine ttok_cons ⟨by kernel_rfl, ⟨_, _, _, Try.underlying35⟩⟩ ?_
  refine ttok_cons ⟨by kernel_rfl, ⟨_, _, _, Try.underlying37⟩⟩ ?_
  refine ttok_cons ⟨by kernel_rfl, ⟨_, _, _, Try.underlying38⟩⟩ ?_
  refine ttok_cons ⟨by kernel_rfl, ⟨_, _, _, Try.underlying39⟩⟩ ?_
  refine ttok_cons ⟨by kernel_rfl, ⟨_, _, _, Try.underlying40⟩⟩ ?_
  refine ttok_cons ⟨by kernel_rfl, ⟨_, _, _, Try.underlying41⟩⟩ ?_
  refine ttok_cons ⟨by kernel_rfl, ⟨_, _, _, Try.underlying42⟩⟩ ?_
  refine ttok_cons ⟨by kernel_rfl, ⟨_, _, _, Try.underlying43⟩⟩ ?_
  refine ttok_cons ⟨by kernel_rfl, ⟨_, _, _, Try.underlying44⟩⟩ ?_
  refine ttok_cons ⟨by kernel_rfl, ⟨_, _, _, Try.underlying45⟩⟩ ?_
  refine ttok_cons ⟨by kernel_rfl, Try.underlying46⟩ ?_
  refine ttok_cons ⟨by kernel_rfl, ⟨_, Try.underlying47, by kernel_rfl, by kernel_rfl, by kernel_rfl, by kernel_rfl, by kernel_rfl, by kernel_rfl⟩⟩ ?_
  refine ttok_cons ⟨by kernel_rfl, ⟨_, Try.underlying48, by kernel_rfl, by kernel_rfl, by kernel_rfl, by kernel_rfl, by kernel_rfl, by kernel_rfl⟩⟩ ?_
  refine ttok_cons ⟨by kernel_rfl, ⟨_, Try.underlying49, by kernel_rfl, by kernel_rfl, by kernel_rfl, by kernel_rfl, by kernel_rfl, by kernel_rfl⟩⟩ ?_
  refine ttok_cons ⟨by kernel_rfl, ⟨_, Try.underlying50, by kernel_rfl, by kernel_rfl, by kernel_rfl, by kernel_rfl, by kernel_rfl, by kernel_rfl⟩⟩ ?_
  refine ttok_cons ⟨by kernel_rfl, Try.underlying51⟩ ?_
  refine ttok_cons ⟨by kernel_rfl, ⟨_, _, _, Try.underlying52⟩⟩ ?_
  refine ttok_cons ⟨by kernel_rfl, ⟨_, _, _, Try.underlying54⟩⟩ ?_
  refine ttok_cons ⟨by kernel_rfl, Try.underlying55⟩ ?_
  refine ttok_cons ⟨by kernel_rfl, ⟨_, _, _, Try.underlying56⟩⟩ ?_
  refine ttok_cons ⟨by kernel_rfl, ⟨_, _, _, Try.underlying57⟩⟩ ?_
  refine ttok_cons ⟨by kernel_rfl, ⟨_, _, _, Try.underlying59⟩⟩ ?_
  refine ttok_cons ⟨by kernel_rfl, ⟨_, _, _, Try.underlying60⟩⟩ ?_
  refine ttok_cons ⟨by kernel_rfl, ⟨_, _, _, Try.underlying61⟩⟩ ?_
  refine ttok_cons ⟨by kernel_rfl, ⟨_, _, _, Try.underlying62⟩⟩ ?_
  refine ttok_cons ⟨by kernel_rfl, ⟨_, _, _, Try.underlying63⟩⟩ ?_
  refine ttok_cons ⟨by kernel_rfl, ⟨_, _, _, Try.underlying64⟩⟩ ?_
  refine ttok_cons ⟨by kernel_rfl, ⟨_, _, _, Try.underlying65⟩⟩ ?_
  refine ttok_cons ⟨by kernel_rfl, ⟨_, _, _, Try.underlying67⟩⟩ ?_
  refine ttok_cons ⟨by kernel_rfl, ⟨_, _, _, Try.underlying68⟩⟩ ?_
  refine ttok_cons ⟨by kernel_rfl, ⟨_, _, _, Try.underlying69⟩⟩ ?_
  refine ttok_cons ⟨by kernel_rfl, ⟨_, _, _, Try.underlying71⟩⟩ ?_
  refine ttok_cons ⟨by kernel_rfl, ⟨_, _, _, Try.underlying72⟩⟩ ?_
  refine ttok_cons ⟨by kernel_rfl, ⟨_, _, _, Try.underlying73⟩⟩ ?_
  refine ttok_cons ⟨by kernel_rfl, ⟨_, _, _, Try.underlying74⟩⟩ ?_
  refine ttok_cons ⟨by kernel_rfl, ⟨_, _, _, Try.underlying75⟩⟩ ?_
  refine ttok_cons ⟨by kernel_rfl, ⟨_, _, _, Try.underlying76⟩⟩ ?_
  refine ttok_cons ⟨by kernel_rfl, ⟨_, _, _, Try.underlying78⟩⟩ ?_
  refine ttok_cons ⟨by kernel_rfl, ⟨_, _, _, Try.underlying79⟩⟩ ?_
  refine ttok_cons ⟨by kernel_rfl, ⟨_, _, _, Try.underlying80⟩⟩ ?_
  refine ttok_cons ⟨by kernel_rfl, ⟨_, _, _, Try.underlying81⟩⟩ ?_
  refine ttok_cons ⟨by kernel_rfl, ⟨_, _, _, Try.underlying82⟩⟩ ?_
  refine ttok_cons ⟨by kernel_rfl, ⟨_, _, _, Try.underlying83⟩⟩ ?_
  refine ttok_cons ⟨by kernel_rfl, ⟨_, _, _, Try.underlying84⟩⟩ ?_
  refine ttok_cons ⟨by kernel_rfl, ⟨_, _, _, Try.underlying85⟩⟩ ?_
  refine ttok_cons ⟨by kernel_rfl, ⟨_, _, _, Try.underlying86⟩⟩ ?_
  refine ttok_cons ⟨by kernel_rfl, ⟨_, _, _, Try.underlying87⟩⟩ ?_
  refine ttok_cons ⟨by kernel_rfl, Try.underlying88⟩ ?_
  refine ttok_cons ⟨by kernel_rfl, Try.underlying89⟩ ?_
  refine ttok_cons ⟨by kernel_rfl, Try.underlying90⟩ ?_
  refine ttok_cons ⟨by kernel_rfl, ⟨_, _, _, Try.underlying91⟩⟩ ?_
  refine ttok_cons ⟨by kernel_rfl, ⟨_, Try.underlying92, by kernel_rfl, by kernel_rfl, by kernel_rfl, by kernel_rfl, by kernel_rfl, by kernel_rfl⟩⟩ ?_
  refine ttok_cons ⟨by kernel_rfl, ⟨_, Try.underlying93, by kernel_rfl, by kernel_rfl, by kernel_rfl, by kernel_rfl, by kernel_rfl, by kernel_rfl⟩⟩ ?_
  refine ttok_cons ⟨by kernel_rfl, ⟨_, _, _, Try.underlying94⟩⟩ ?_
  refine ttok_cons ⟨by kernel_rfl, ⟨_, _, _, Try.underlying96⟩⟩ ?_
  refine ttok_cons ⟨by kernel_rfl, ⟨_, _, _, Try.underlying97⟩⟩ ?_
  refine ttok_cons ⟨by kernel_rfl, ⟨_, _, _, Try.underlying98⟩⟩ ?_
  refine ttok_cons ⟨by kernel_rfl, ⟨_, _, _, Try.underlying99⟩⟩ ?_
  refine ttok_cons ⟨by kernel_rfl, ⟨_, _, _, Try.underlying100⟩⟩ ?_
  refine ttok_cons ⟨by kernel_rfl, ⟨_, _, _, Try.underlying101⟩⟩ ?_
  refine ttok_cons ⟨by kernel_rfl, ⟨_, _, _, Try.underlying102⟩⟩ ?_
  refine ttok_cons ⟨by kernel_rfl, ⟨_, _, _, Try.underlying103⟩⟩ ?_
  refine ttok_cons ⟨by kernel_rfl, ⟨_, _, _, Try.underlying104⟩⟩ ?_
  refine ttok_cons ⟨by kernel_rfl, ⟨_, _, _, Try.underlying105⟩⟩ ?_
  refine ttok_cons ⟨by kernel_rfl, ⟨_, _, _, Try.underlying106⟩⟩ ?_
  refine ttok_cons ⟨by kernel_rfl, ⟨_, _, _, Try.underlying107⟩⟩ ?_
  refine ttok_cons ⟨by kernel_rfl, ⟨_, _, _, Try.underlying108⟩⟩ ?_
  refine ttok_cons ⟨by kernel_rfl, ⟨_, _, _, Try.underlying109⟩⟩ ?_
  refine ttok_cons ⟨by kernel_rfl, ⟨_, _, _, Try.underlying110⟩⟩ ?_
  refine ttok_cons ⟨by kernel_rfl, ⟨_, Try.underlying111⟩⟩ ?_
  refine ttok_cons ⟨by kernel_rfl, ⟨_, Try.underlying112⟩⟩ ?_
  refine ttok_cons ⟨by kernel_rfl, ⟨_, _, _, Try.underlying113⟩⟩ ?_
  refine ttok_cons ⟨by kernel_rfl, ⟨_, _, _, Try.underlying114⟩⟩ ?_
  refine ttok_cons ⟨by kernel_rfl, ⟨_, _, _, Try.underlying115⟩⟩ ?_
  refine ttok_cons ⟨by kernel_rfl, ⟨_, _, _, Try.underlying116⟩⟩ ?_
  refine ttok_cons ⟨by kernel_rfl, ⟨_, _, _, Try.underlying117⟩⟩ ?_
  refine ttok_cons ⟨by kernel_rfl, Try.underlying118⟩ ?_
  refine ttok_cons ⟨by kernel_rfl, ⟨_, _, _, Try.underlying119⟩⟩ ?_
  refine ttok_cons ⟨by kernel_rfl, ⟨_, _, _, Try.underlying120⟩⟩ ?_
  refine ttok_cons ⟨by kernel_rfl, ⟨_, _, _, Try.underlying121⟩⟩ ?_
  refine ttok_cons ⟨by kernel_rfl, ⟨_, _, _, Try.underlying122⟩⟩ ?_
  refine ttok_cons ⟨by kernel_rfl, ⟨_, _, _, Try.underlying123⟩⟩ ?_
  refine ttok_cons ⟨by kernel_rfl, ⟨_, _, _, Try.underlying124⟩⟩ ?_
  refine ttok_cons ⟨by kernel_rfl, ⟨_, _, _, Try.underlying125⟩⟩ ?_
  refine ttok_cons ⟨by kernel_rfl, ⟨_, _, _, Try.underlying126⟩⟩ ?_
  refine ttok_cons ⟨by kernel_rfl, ⟨_, _, _, Try.underlying127⟩⟩ ?_
  refine ttok_cons ⟨by kernel_rfl, ⟨_, _, _, Try.underlying128⟩⟩ ?_
  refine ttok_cons ⟨by kernel_rfl, ⟨_, _, _, Try.underlying129⟩⟩ ?_
  refine ttok_cons ⟨by kernel_rfl, ⟨_, _, _, Try.underlying130⟩⟩ ?_
  refine ttok_cons ⟨by kernel_rfl, ⟨_, _, _, Try.underlying131⟩⟩ ?_
  refine ttok_cons ⟨by kernel_rfl, ⟨_, _, _, Try.underlying132⟩⟩ ?_
  refine ttok_cons ⟨by kernel_rfl, ⟨_, _, _, Try.underlying133⟩⟩ ?_
  refine ttok_cons ⟨by kernel_rfl, ⟨_, _, _, Try.underlying134⟩⟩ ?_
  refine ttok_cons ⟨by kernel_rfl, ⟨_, _, _, Try.underlying135⟩⟩ ?_
  refine ttok_cons ⟨by kernel_rfl, Try.underlying136⟩ ?_
  refine ttok_cons ⟨by kernel_rfl, ⟨_, _, _, Try.underlying138⟩⟩ ?_
  refine ttok_cons ⟨by kernel_rfl, ⟨_, _, _, Try.underlying139⟩⟩ ?_
  refine ttok_cons ⟨by kernel_rfl, ⟨_, _, _, Try.underlying140⟩⟩ ?_
  refine ttok_cons ⟨by kernel_rfl, ⟨_, _, _, Try.underlying141⟩⟩ ?_
  refine ttok_cons ⟨by kernel_rfl, ⟨_, _, _, Try.underlying142⟩⟩ ?_
  refine ttok_cons ⟨by kernel_rfl, ⟨_, _, _, Try.underlying143⟩⟩ ?_
  refine ttok_cons ⟨by kernel_rfl, ⟨_, _, _, Try.underlying144⟩⟩ ?_
  refine ttok_cons ⟨by kernel_rfl, Try.underlying145⟩ ?_
  refine ttok_cons ⟨by kernel_rfl, Try.underlying146⟩ ?_
  refine ttok_cons ⟨by kernel_rfl, ⟨_, _, _, Try.underlying147⟩⟩ ?_
  refine ttok_cons ⟨by kernel_rfl, ⟨_, _, _, Try.underlying148⟩⟩ ?_
  refine ttok_cons ⟨by kernel_rfl, ⟨_, _, _, Try.underlying149⟩⟩ ?_
  refine ttok_cons ⟨by kernel_rfl, Try.underlying150⟩ ?_
  refine ttok_cons ⟨by kernel_rfl, ⟨_, _, _, Try.underlying151⟩⟩ ?_
  refine ttok_cons ⟨by kernel_rfl, ⟨_, _, _, Try.underlying152⟩⟩ ?_
  refine ttok_cons ⟨by kernel_rfl, Try.underlying153⟩ ?_
  refine ttok_cons ⟨by kernel_rfl, ⟨_, _, _, Try.underlying154⟩⟩ ?_
  refine ttok_cons ⟨by kernel_rfl, ⟨_, _, _, Try.underlying155⟩⟩ ?_
  refine ttok_cons ⟨by kernel_rfl, Try.underlying161⟩ ?_
  refine ttok_cons ⟨by kernel_rfl, Try.underlying162⟩ ?_
  refine ttok_cons ⟨by kernel_rfl, ⟨_, _, _, Try.underlying163⟩⟩ ?_
  refine ttok_cons ⟨by kernel_rfl, Try.underlying164⟩ ?_
  refine ttok_cons ⟨by kernel_rfl, Try.underlying165⟩ ?_
  refine ttok_cons ⟨by kernel_rfl, Try.underlying166⟩ ?_
  exact ttok_nil _
theorem mix : Try.prog.follows .mixedOrders = true := by kernel_rfl
theorem cmpstr : CmpStr Try.prog 123 := CmpStr.of Try.func123 (by kernel_rfl) (by kernel_rfl) (by kernel_rfl) rfl
/-! sluicegate/sluicegatelaw13.Great -/
def sluicegatelaw13_Great.l2 : Nat → (Int × List (Int) × List (List UInt8) × (List (List UInt8 × Bool × List UInt8)) × (List (List UInt8 × List UInt8))) → (Int) → Option (Bool)
  | 0, _, _ => none
  | k + 1, a0, x3 => if (decide (x3 < (a0.2.2.2.2.length : Int))) = true then (if 0 ≤ x3 ∧ x3 < (a0.2.2.2.2.length : Int) then (if (decide (200 < (((gt a0.2.2.2.2 x3).1).length : Int))) = true then (some true) else (sluicegatelaw13_Great.l2 k a0 (w64 (x3 + 1)))) else none) else (some false)
def sluicegatelaw13_Great.l1 : Nat → (Int × List (Int) × List (List UInt8) × (List (List UInt8 × Bool × List UInt8)) × (List (List UInt8 × List UInt8))) → (Int) → Option (Bool)
  | 0, _, _ => none
  | k + 1, a0, x2 => if (decide (x2 < (a0.2.2.2.1.length : Int))) = true then (if 0 ≤ x2 ∧ x2 < (a0.2.2.2.1.length : Int) then (if (decide (200 < (((gt a0.2.2.2.1 x2).1).length : Int))) = true then (some true) else (sluicegatelaw13_Great.l1 k a0 (w64 (x2 + 1)))) else none) else (sluicegatelaw13_Great.l2 k a0 0)
def sluicegatelaw13_Great.l0 : Nat → (Int × List (Int) × List (List UInt8) × (List (List UInt8 × Bool × List UInt8)) × (List (List UInt8 × List UInt8))) → (Int) → Option (Bool)
  | 0, _, _ => none
  | k + 1, a0, x1 => if (decide (x1 < (a0.2.2.1.length : Int))) = true then (if 0 ≤ x1 ∧ x1 < (a0.2.2.1.length : Int) then (if (decide (200 < ((gt a0.2.2.1 x1).length : Int))) = true then (some true) else (sluicegatelaw13_Great.l0 k a0 (w64 (x1 + 1)))) else none) else (sluicegatelaw13_Great.l1 k a0 0)
def sluicegatelaw13_Great.f (k : Nat) (a0 : Int × List (Int) × List (List UInt8) × (List (List UInt8 × Bool × List UInt8)) × (List (List UInt8 × List UInt8))) : Option (Bool) := if (decide (80 < (a0.2.1.length : Int))) = true then (some true) else (if (decide (80 < (a0.2.2.1.length : Int))) = true then (some true) else (if (decide (150 < (a0.2.2.2.1.length : Int))) = true then (some true) else (if (decide (150 < (a0.2.2.2.2.length : Int))) = true then (some true) else (sluicegatelaw13_Great.l0 k a0 0))))
set_option maxRecDepth 20000 in
set_option maxHeartbeats 40000000 in
theorem sluicegatelaw13_Great.spec {k : Nat} {a0 : Int × List (Int) × List (List UInt8) × (List (List UInt8 × Bool × List UInt8)) × (List (List UInt8 × List UInt8))} {A1 : Option Addr} {c_1 : Nat} {A2 : Option Addr} {c_2 : Nat} {A3 : Option Addr} {c_3 : Nat} {A4 : Option Addr} {c_4 : Nat} {r : Bool} (H : sluicegatelaw13_Great.f k a0 = some r) :
    Spec Try.prog 28 [.agg #[.int .i64 a0.1, .slice A1 a0.2.1.length c_1, .slice A2 a0.2.2.1.length c_2, .slice A3 a0.2.2.2.1.length c_3, .slice A4 a0.2.2.2.2.length c_4]] [] [rdC 46 (.int .u32) a0.2.1 (.slice A1 a0.2.1.length c_1), rdC 9 .str a0.2.2.1 (.slice A2 a0.2.2.1.length c_2), rdC 48 (.pair .str (.pair .bool .str)) a0.2.2.2.1 (.slice A3 a0.2.2.2.1.length c_3), rdC 50 (.pair .str .str) a0.2.2.2.2 (.slice A4 a0.2.2.2.2.length c_4)] (fun v l => v = .bool r ∧ l = []) := by
  refine Spec.enter Try.func28 rfl (by kernel_rfl) (by kernel_rfl) fun w0 F0 h0 => ?_
  unfold sluicegatelaw13_Great.f at H
  refine J.seq (J.region ?_)
  refine RJ.op rfl rfl (op_box rfl rfl h0) ?_
  rintro _ w1 ⟨b1, rfl, h1⟩
  replace h1 : St w0 F0 [boxC b1 31 [.int .i64 a0.1, .slice A1 a0.2.1.length c_1, .slice A2 a0.2.2.1.length c_2, .slice A3 a0.2.2.2.1.length c_3, .slice A4 a0.2.2.2.2.length c_4]] _ _ := h1
  refine RJ.run ttok 1 rfl ?_
  refine RJ.fin [(1, .pointer (some ⟨b1, 0, none⟩))] rfl ?_
  refine J.seq (J.seq (J.region ?_))
  refine RJ.run ttok 1 rfl ?_
  refine RJ.q rfl rfl (q_load_box ttok 0 h1.wht rfl rfl rfl rfl rfl) ?_
  refine RJ.run ttok 3 rfl ?_
  rcases Bool.eq_false_or_eq_true (decide (80 < (a0.2.1.length : Int))) with c1 | c1
  · replace H := ite_t c1 H
    refine RJ.know (t := 10) rfl (congrArg Value.bool c1) ?_
    refine RJ.run ttok 17 rfl ?_
    refine RJ.fin [(1, _), (27, .bool true)] rfl ?_
    refine J.condT rfl ?_
    refine J.seq (J.region ?_)
    refine RJ.run ttok 1 rfl ?_
    refine RJ.fin [(2, .bool true)] rfl ?_
    refine J.ret ?_
    obtain rfl := Option.some.inj H
    exact ⟨_, _, _, (results_slots rfl), ⟨rfl, rfl⟩, h1.only [] rfl⟩
  replace H := ite_f c1 H
  refine RJ.know (t := 10) rfl (congrArg Value.bool c1) ?_
  refine RJ.run ttok 1 rfl ?_
  refine RJ.q rfl rfl (q_load_box ttok 0 h1.wht rfl rfl rfl rfl rfl) ?_
  refine RJ.run ttok 4 rfl ?_
  rcases Bool.eq_false_or_eq_true (decide (80 < (a0.2.2.1.length : Int))) with c2 | c2
  · replace H := ite_t c2 H
    refine RJ.know (t := 16) rfl (congrArg Value.bool c2) ?_
    refine RJ.run ttok 11 rfl ?_
    refine RJ.fin [(1, _), (27, .bool true)] rfl ?_
    refine J.condT rfl ?_
    refine J.seq (J.region ?_)
    refine RJ.run ttok 1 rfl ?_
    refine RJ.fin [(2, .bool true)] rfl ?_
    refine J.ret ?_
    obtain rfl := Option.some.inj H
    exact ⟨_, _, _, (results_slots rfl), ⟨rfl, rfl⟩, h1.only [] rfl⟩
  replace H := ite_f c2 H
  refine RJ.know (t := 16) rfl (congrArg Value.bool c2) ?_
  refine RJ.run ttok 1 rfl ?_
  refine RJ.q rfl rfl (q_load_box ttok 0 h1.wht rfl rfl rfl rfl rfl) ?_
  refine RJ.run ttok 4 rfl ?_
  rcases Bool.eq_false_or_eq_true (decide (150 < (a0.2.2.2.1.length : Int))) with c3 | c3
  · replace H := ite_t c3 H
    refine RJ.know (t := 22) rfl (congrArg Value.bool c3) ?_
    refine RJ.run ttok 5 rfl ?_
    refine RJ.fin [(1, _), (27, .bool true)] rfl ?_
    refine J.condT rfl ?_
    refine J.seq (J.region ?_)
    refine RJ.run ttok 1 rfl ?_
    refine RJ.fin [(2, .bool true)] rfl ?_
    refine J.ret ?_
    obtain rfl := Option.some.inj H
    exact ⟨_, _, _, (results_slots rfl), ⟨rfl, rfl⟩, h1.only [] rfl⟩
  replace H := ite_f c3 H
  refine RJ.know (t := 22) rfl (congrArg Value.bool c3) ?_
  refine RJ.run ttok 1 rfl ?_
  refine RJ.q rfl rfl (q_load_box ttok 0 h1.wht rfl rfl rfl rfl rfl) ?_
  refine RJ.run ttok 3 rfl ?_
  refine RJ.fin [(1, _), (27, .bool (decide (150 < (a0.2.2.2.2.length : Int))))] rfl ?_
  refine J.cond rfl (fun c4 => ?_) (fun c4 => ?_)
  · replace H := ite_t c4 H
    refine J.seq (J.region ?_)
    refine RJ.run ttok 1 rfl ?_
    refine RJ.fin [(2, .bool true)] rfl ?_
    refine J.ret ?_
    obtain rfl := Option.some.inj H
    exact ⟨_, _, _, (results_slots rfl), ⟨rfl, rfl⟩, h1.only [] rfl⟩
  replace H := ite_f c4 H
  refine J.skip ?_
  refine J.seq (J.seq (J.region ?_))
  refine RJ.run ttok 1 rfl ?_
  refine RJ.fin [(1, _), (3, .int .i64 0)] rfl ?_
  refine J.block ?_
  have h10 := ((h1.only [0] rfl).rds [0, 1, 2, 3] rfl)
  refine J.loop (fun kk env w => ∃ (x1 : Int), env = [(1, .pointer (some ⟨b1, 0, none⟩)), (3, .int .i64 x1)] ∧ St w0 F0 [boxC b1 31 [.int .i64 a0.1, .slice A1 a0.2.1.length c_1, .slice A2 a0.2.2.1.length c_2, .slice A3 a0.2.2.2.1.length c_3, .slice A4 a0.2.2.2.2.length c_4]] [rdC 46 (.int .u32) a0.2.1 (.slice A1 a0.2.1.length c_1), rdC 9 .str a0.2.2.1 (.slice A2 a0.2.2.1.length c_2), rdC 48 (.pair .str (.pair .bool .str)) a0.2.2.2.1 (.slice A3 a0.2.2.2.1.length c_3), rdC 50 (.pair .str .str) a0.2.2.2.2 (.slice A4 a0.2.2.2.2.length c_4)] w ∧ sluicegatelaw13_Great.l0 kk a0 x1 = some r) (k := k) ⟨0, rfl, h10, H⟩ ?_
  rintro k1 env w2 ⟨x1, rfl, h2, H⟩
  cases k1 with
  | zero => exact nomatch (show none = some r from H)
  | succ k1 =>
    rw [sluicegatelaw13_Great.l0] at H
    refine J.seq (J.seq (J.region ?_))
    refine RJ.run ttok 2 rfl ?_
    refine RJ.q rfl rfl (q_load_box ttok 0 h2.wht rfl rfl rfl rfl rfl) ?_
    refine RJ.run ttok 2 rfl ?_
    refine RJ.fin [(1, _), (3, _), (32, .bool (decide (x1 < (a0.2.2.1.length : Int))))] rfl ?_
    refine J.cond rfl (fun c5 => ?_) (fun c5 => ?_)
    · replace H := ite_t c5 H
      refine J.skip ?_
      refine J.seq (J.block (J.seq (J.region ?_)))
      refine RJ.run ttok 1 rfl ?_
      refine RJ.q rfl rfl (q_load_box ttok 0 h2.wht rfl rfl rfl rfl rfl) ?_
      refine RJ.run ttok 1 rfl ?_
      obtain ⟨⟨p1, p2⟩, H⟩ := guard_t H
      have e1 := elem_A h2.wh (Gives.self 2 rfl) p1 p2
      refine RJ.q rfl rfl (q_index ttok rfl rfl rfl rfl rfl e1 p1 p2) ?_
      refine RJ.q rfl rfl (q_load_elem (f := 0) ttok rfl h2.wht (Gives.self 2 rfl) p1 p2 rfl rfl rfl rfl rfl) ?_
      refine RJ.run ttok 2 rfl ?_
      refine RJ.fin [(1, _), (3, _), (41, .bool (decide (200 < ((gt a0.2.2.1 x1).length : Int))))] rfl ?_
      refine J.cond rfl (fun c6 => ?_) (fun c6 => ?_)
      · replace H := ite_t c6 H
        refine J.seq (J.region ?_)
        refine RJ.run ttok 1 rfl ?_
        refine RJ.fin [(2, .bool true)] rfl ?_
        refine J.ret ?_
        obtain rfl := Option.some.inj H
        exact ⟨_, _, _, (results_slots rfl), ⟨rfl, rfl⟩, h2.only [] rfl⟩
      replace H := ite_f c6 H
      refine J.skip ?_
      refine J.region ?_
      refine RJ.run ttok 3 rfl ?_
      refine RJ.fin [(1, _), (3, .int .i64 (w64 (x1 + 1)))] rfl ?_
      have h3 := ((h2.only [0] rfl).rds [0, 1, 2, 3] rfl)
      exact ⟨k1, by omega, (w64 (x1 + 1)), rfl, h3, H⟩
    replace H := ite_f c5 H
    refine J.exit ?_
    refine J.seq (J.seq (J.region ?_))
    refine RJ.run ttok 1 rfl ?_
    refine RJ.fin [(1, _), (4, .int .i64 0)] rfl ?_
    refine J.block ?_
    have h9 := ((h2.only [0] rfl).rds [0, 1, 2, 3] rfl)
    refine J.loop (fun kk env w => ∃ (x2 : Int), env = [(1, .pointer (some ⟨b1, 0, none⟩)), (4, .int .i64 x2)] ∧ St w0 F0 [boxC b1 31 [.int .i64 a0.1, .slice A1 a0.2.1.length c_1, .slice A2 a0.2.2.1.length c_2, .slice A3 a0.2.2.2.1.length c_3, .slice A4 a0.2.2.2.2.length c_4]] [rdC 46 (.int .u32) a0.2.1 (.slice A1 a0.2.1.length c_1), rdC 9 .str a0.2.2.1 (.slice A2 a0.2.2.1.length c_2), rdC 48 (.pair .str (.pair .bool .str)) a0.2.2.2.1 (.slice A3 a0.2.2.2.1.length c_3), rdC 50 (.pair .str .str) a0.2.2.2.2 (.slice A4 a0.2.2.2.2.length c_4)] w ∧ sluicegatelaw13_Great.l1 kk a0 x2 = some r) (k := k1) ⟨0, rfl, h9, H⟩ ?_
    rintro k2 env w3 ⟨x2, rfl, h4, H⟩
    cases k2 with
    | zero => exact nomatch (show none = some r from H)
    | succ k2 =>
      rw [sluicegatelaw13_Great.l1] at H
      refine J.seq (J.seq (J.region ?_))
      refine RJ.run ttok 2 rfl ?_
      refine RJ.q rfl rfl (q_load_box ttok 0 h4.wht rfl rfl rfl rfl rfl) ?_
      refine RJ.run ttok 2 rfl ?_
      refine RJ.fin [(1, _), (4, _), (46, .bool (decide (x2 < (a0.2.2.2.1.length : Int))))] rfl ?_
      refine J.cond rfl (fun c7 => ?_) (fun c7 => ?_)
      · replace H := ite_t c7 H
        refine J.skip ?_
        refine J.seq (J.block (J.seq (J.region ?_)))
        refine RJ.run ttok 1 rfl ?_
        refine RJ.q rfl rfl (q_load_box ttok 0 h4.wht rfl rfl rfl rfl rfl) ?_
        refine RJ.run ttok 1 rfl ?_
        obtain ⟨⟨p3, p4⟩, H⟩ := guard_t H
        have e2 := elem_A h4.wh (Gives.self 3 rfl) p3 p4
        refine RJ.q rfl rfl (q_index ttok rfl rfl rfl rfl rfl e2 p3 p4) ?_
        refine RJ.run ttok 1 rfl ?_
        refine RJ.q rfl rfl (q_load_elem (f := 0) ttok rfl h4.wht (Gives.self 3 rfl) p3 p4 rfl rfl rfl rfl rfl) ?_
        refine RJ.run ttok 2 rfl ?_
        refine RJ.fin [(1, _), (4, _), (56, .bool (decide (200 < (((gt a0.2.2.2.1 x2).1).length : Int))))] rfl ?_
        refine J.cond rfl (fun c8 => ?_) (fun c8 => ?_)
        · replace H := ite_t c8 H
          refine J.seq (J.region ?_)
          refine RJ.run ttok 1 rfl ?_
          refine RJ.fin [(2, .bool true)] rfl ?_
          refine J.ret ?_
          obtain rfl := Option.some.inj H
          exact ⟨_, _, _, (results_slots rfl), ⟨rfl, rfl⟩, h4.only [] rfl⟩
        replace H := ite_f c8 H
        refine J.skip ?_
        refine J.region ?_
        refine RJ.run ttok 3 rfl ?_
        refine RJ.fin [(1, _), (4, .int .i64 (w64 (x2 + 1)))] rfl ?_
        have h5 := ((h4.only [0] rfl).rds [0, 1, 2, 3] rfl)
        exact ⟨k2, by omega, (w64 (x2 + 1)), rfl, h5, H⟩
      replace H := ite_f c7 H
      refine J.exit ?_
      refine J.seq (J.seq (J.region ?_))
      refine RJ.run ttok 1 rfl ?_
      refine RJ.fin [(1, _), (5, .int .i64 0)] rfl ?_
      refine J.block ?_
      have h8 := ((h4.only [0] rfl).rds [0, 1, 2, 3] rfl)
      refine J.loop (fun kk env w => ∃ (x3 : Int), env = [(1, .pointer (some ⟨b1, 0, none⟩)), (5, .int .i64 x3)] ∧ St w0 F0 [boxC b1 31 [.int .i64 a0.1, .slice A1 a0.2.1.length c_1, .slice A2 a0.2.2.1.length c_2, .slice A3 a0.2.2.2.1.length c_3, .slice A4 a0.2.2.2.2.length c_4]] [rdC 46 (.int .u32) a0.2.1 (.slice A1 a0.2.1.length c_1), rdC 9 .str a0.2.2.1 (.slice A2 a0.2.2.1.length c_2), rdC 48 (.pair .str (.pair .bool .str)) a0.2.2.2.1 (.slice A3 a0.2.2.2.1.length c_3), rdC 50 (.pair .str .str) a0.2.2.2.2 (.slice A4 a0.2.2.2.2.length c_4)] w ∧ sluicegatelaw13_Great.l2 kk a0 x3 = some r) (k := k2) ⟨0, rfl, h8, H⟩ ?_
      rintro k3 env w4 ⟨x3, rfl, h6, H⟩
      cases k3 with
      | zero => exact nomatch (show none = some r from H)
      | succ k3 =>
        rw [sluicegatelaw13_Great.l2] at H
        refine J.seq (J.seq (J.region ?_))
        refine RJ.run ttok 2 rfl ?_
        refine RJ.q rfl rfl (q_load_box ttok 0 h6.wht rfl rfl rfl rfl rfl) ?_
        refine RJ.run ttok 2 rfl ?_
        refine RJ.fin [(1, _), (5, _), (61, .bool (decide (x3 < (a0.2.2.2.2.length : Int))))] rfl ?_
        refine J.cond rfl (fun c9 => ?_) (fun c9 => ?_)
        · replace H := ite_t c9 H
          refine J.skip ?_
          refine J.seq (J.block (J.seq (J.region ?_)))
          refine RJ.run ttok 1 rfl ?_
          refine RJ.q rfl rfl (q_load_box ttok 0 h6.wht rfl rfl rfl rfl rfl) ?_
          refine RJ.run ttok 1 rfl ?_
          obtain ⟨⟨p5, p6⟩, H⟩ := guard_t H
          have e3 := elem_A h6.wh (Gives.self 4 rfl) p5 p6
          refine RJ.q rfl rfl (q_index ttok rfl rfl rfl rfl rfl e3 p5 p6) ?_
          refine RJ.run ttok 1 rfl ?_
          refine RJ.q rfl rfl (q_load_elem (f := 0) ttok rfl h6.wht (Gives.self 4 rfl) p5 p6 rfl rfl rfl rfl rfl) ?_
          refine RJ.run ttok 2 rfl ?_
          refine RJ.fin [(1, _), (5, _), (71, .bool (decide (200 < (((gt a0.2.2.2.2 x3).1).length : Int))))] rfl ?_
          refine J.cond rfl (fun c10 => ?_) (fun c10 => ?_)
          · replace H := ite_t c10 H
            refine J.seq (J.region ?_)
            refine RJ.run ttok 1 rfl ?_
            refine RJ.fin [(2, .bool true)] rfl ?_
            refine J.ret ?_
            obtain rfl := Option.some.inj H
            exact ⟨_, _, _, (results_slots rfl), ⟨rfl, rfl⟩, h6.only [] rfl⟩
          replace H := ite_f c10 H
          refine J.skip ?_
          refine J.region ?_
          refine RJ.run ttok 3 rfl ?_
          refine RJ.fin [(1, _), (5, .int .i64 (w64 (x3 + 1)))] rfl ?_
          have h7 := ((h6.only [0] rfl).rds [0, 1, 2, 3] rfl)
          exact ⟨k3, by omega, (w64 (x3 + 1)), rfl, h7, H⟩
        replace H := ite_f c9 H
        refine J.exit ?_
        refine J.seq (J.region ?_)
        refine RJ.run ttok 1 rfl ?_
        refine RJ.fin [(2, .bool false)] rfl ?_
        refine J.ret ?_
        obtain rfl := Option.some.inj H
        exact ⟨_, _, _, (results_slots rfl), ⟨rfl, rfl⟩, h6.only [] rfl⟩

/-! internal/bytealg.CompareString -/
def bytealg_CompareString.f (a0 : List UInt8) (a1 : List UInt8) : Option (Int) := some (scmp a0 a1)
set_option maxRecDepth 20000 in
set_option maxHeartbeats 40000000 in
theorem bytealg_CompareString.spec {a0 : List UInt8} {a1 : List UInt8}  {r : Int} (H : bytealg_CompareString.f a0 a1 = some r) :
    Spec Try.prog 116 [.string ⟨⟨a0⟩⟩, .string ⟨⟨a1⟩⟩] [] [] (fun v l => v = .int .i64 r ∧ l = []) := by
  refine Spec.enter Try.func116 rfl (by kernel_rfl) (by kernel_rfl) fun w0 F0 h0 => ?_
  unfold bytealg_CompareString.f at H
  refine J.seq (J.region ?_)
  refine RJ.run ttok 1 rfl ?_
  refine RJ.fin [(0, .string ⟨⟨a0⟩⟩), (1, .string ⟨⟨a1⟩⟩)] rfl ?_
  refine J.seq (J.region ?_)
  refine RJ.run ttok 2 rfl ?_
  refine RJ.q rfl rfl (q_cmpstr cmpstr rfl rfl rfl) ?_
  refine RJ.run ttok 1 rfl ?_
  refine RJ.fin [(4, .int .i64 (scmp a0 a1))] rfl ?_
  refine J.ret ?_
  obtain rfl := Option.some.inj H
  exact ⟨_, _, _, (results_slots rfl), ⟨rfl, rfl⟩, h0.only [] rfl⟩

/-! strings.Compare -/
def strings_Compare.f (a0 : List UInt8) (a1 : List UInt8) : Option (Int) := (bytealg_CompareString.f a0 a1).bind fun r1 => (some r1)
set_option maxRecDepth 20000 in
set_option maxHeartbeats 40000000 in
theorem strings_Compare.spec {a0 : List UInt8} {a1 : List UInt8}  {r : Int} (H : strings_Compare.f a0 a1 = some r) :
    Spec Try.prog 104 [.string ⟨⟨a0⟩⟩, .string ⟨⟨a1⟩⟩] [] [] (fun v l => v = .int .i64 r ∧ l = []) := by
  refine Spec.enter Try.func104 rfl (by kernel_rfl) (by kernel_rfl) fun w0 F0 h0 => ?_
  unfold strings_Compare.f at H
  refine J.seq (J.region ?_)
  refine RJ.run ttok 1 rfl ?_
  refine RJ.fin [(0, .string ⟨⟨a0⟩⟩), (1, .string ⟨⟨a1⟩⟩)] rfl ?_
  refine J.seq (J.region ?_)
  refine RJ.run ttok 2 rfl ?_
  obtain ⟨r1, q1, H⟩ := bind_t H
  refine RJ.op rfl rfl (op_call [] (bytealg_CompareString.spec q1) rfl rfl rfl h0 rfl gnil) ?_
  rintro _ w1 ⟨_, ⟨rfl, rfl⟩, h1⟩
  replace h1 : St w0 F0 [] _ _ := h1
  refine RJ.run ttok 1 rfl ?_
  refine RJ.fin [(4, .int .i64 r1)] rfl ?_
  refine J.ret ?_
  obtain rfl := Option.some.inj H
  exact ⟨_, _, _, (results_slots rfl), ⟨rfl, rfl⟩, h1.only [] rfl⟩

/-! sluicegate/lex.Compare -/
def lex_Compare.f (a0 : List UInt8) (a1 : List UInt8) : Option (Int) := (strings_Compare.f a0 a1).bind fun r1 => (some r1)
set_option maxRecDepth 20000 in
set_option maxHeartbeats 40000000 in
theorem lex_Compare.spec {a0 : List UInt8} {a1 : List UInt8}  {r : Int} (H : lex_Compare.f a0 a1 = some r) :
    Spec Try.prog 86 [.string ⟨⟨a0⟩⟩, .string ⟨⟨a1⟩⟩] [] [] (fun v l => v = .int .i64 r ∧ l = []) := by
  refine Spec.enter Try.func86 rfl (by kernel_rfl) (by kernel_rfl) fun w0 F0 h0 => ?_
  unfold lex_Compare.f at H
  refine J.seq (J.region ?_)
  refine RJ.run ttok 1 rfl ?_
  refine RJ.fin [(0, .string ⟨⟨a0⟩⟩), (1, .string ⟨⟨a1⟩⟩)] rfl ?_
  refine J.seq (J.region ?_)
  refine RJ.run ttok 2 rfl ?_
  obtain ⟨r1, q1, H⟩ := bind_t H
  refine RJ.op rfl rfl (op_call [] (strings_Compare.spec q1) rfl rfl rfl h0 rfl gnil) ?_
  rintro _ w1 ⟨_, ⟨rfl, rfl⟩, h1⟩
  replace h1 : St w0 F0 [] _ _ := h1
  refine RJ.run ttok 1 rfl ?_
  refine RJ.fin [(4, .int .i64 r1)] rfl ?_
  refine J.ret ?_
  obtain rfl := Option.some.inj H
  exact ⟨_, _, _, (results_slots rfl), ⟨rfl, rfl⟩, h1.only [] rfl⟩

/-! slices.BinarySearchFunc[[]string,string,string] -/
def slices_BinarySearchFunc_string_string_string_lex_Compare.l0 : Nat → (List (List UInt8)) → (List UInt8) → (Int) → (Int) → Option (Int × Bool)
  | 0, _, _, _, _ => none
  | k + 1, a0, a1, x1, x2 => if (decide (x1 < x2)) = true then (if 0 ≤ (w64 ((Int.fdiv (IntKind.u64.wrap ((w64 (x1 + x2)))) (2 ^ 1)))) ∧ (w64 ((Int.fdiv (IntKind.u64.wrap ((w64 (x1 + x2)))) (2 ^ 1)))) < (a0.length : Int) then ((lex_Compare.f (gt a0 (w64 ((Int.fdiv (IntKind.u64.wrap ((w64 (x1 + x2)))) (2 ^ 1))))) a1).bind fun r1 => (if (decide (r1 < 0)) = true then (slices_BinarySearchFunc_string_string_string_lex_Compare.l0 k a0 a1 (w64 ((w64 ((Int.fdiv (IntKind.u64.wrap ((w64 (x1 + x2)))) (2 ^ 1)))) + 1)) x2) else (slices_BinarySearchFunc_string_string_string_lex_Compare.l0 k a0 a1 x1 (w64 ((Int.fdiv (IntKind.u64.wrap ((w64 (x1 + x2)))) (2 ^ 1))))))) else none) else (if (decide (x1 < (a0.length : Int))) = true then (if 0 ≤ x1 ∧ x1 < (a0.length : Int) then ((lex_Compare.f (gt a0 x1) a1).bind fun r2 => (some (x1, (decide (r2 = 0))))) else none) else (some (x1, false)))
def slices_BinarySearchFunc_string_string_string_lex_Compare.f (k : Nat) (a0 : List (List UInt8)) (a1 : List UInt8) : Option (Int × Bool) := slices_BinarySearchFunc_string_string_string_lex_Compare.l0 k a0 a1 0 (a0.length : Int)
set_option maxRecDepth 20000 in
set_option maxHeartbeats 40000000 in
theorem slices_BinarySearchFunc_string_string_string_lex_Compare.spec {k : Nat} {a0 : List (List UInt8)} {a1 : List UInt8} {A1 : Option Addr} {c_1 : Nat} {r : Int × Bool} (H : slices_BinarySearchFunc_string_string_string_lex_Compare.f k a0 a1 = some r) :
    Spec Try.prog 98 [.slice A1 a0.length c_1, .string ⟨⟨a1⟩⟩, .func (.func 86) #[] #[]] [] [rdC 9 .str a0 (.slice A1 a0.length c_1)] (fun v l => v = .tuple #[.int .i64 r.1, .bool r.2] ∧ l = []) := by
  refine Spec.enter Try.func98 rfl (by kernel_rfl) (by kernel_rfl) fun w0 F0 h0 => ?_
  unfold slices_BinarySearchFunc_string_string_string_lex_Compare.f at H
  refine J.seq (J.region ?_)
  refine RJ.run ttok 2 rfl ?_
  refine RJ.fin [(0, .slice A1 a0.length c_1), (1, .string ⟨⟨a1⟩⟩), (2, .func (.func 86) #[] #[])] rfl ?_
  refine J.seq (J.region ?_)
  refine RJ.run ttok 3 rfl ?_
  refine RJ.fin [(0, _), (1, _), (2, _), (8, .int .i64 (a0.length : Int))] rfl ?_
  refine J.seq (J.region ?_)
  refine RJ.run ttok 3 rfl ?_
  refine RJ.fin [(0, _), (1, _), (2, _), (8, _), (9, .int .i64 0), (10, .int .i64 (a0.length : Int))] rfl ?_
  refine J.seq (J.block ?_)
  have h6 := ((h0.only [] rfl).rds [0] rfl)
  refine J.loop (fun kk env w => ∃ (x1 : Int) (x2 : Int), env = [(0, .slice A1 a0.length c_1), (1, .string ⟨⟨a1⟩⟩), (2, .func (.func 86) #[] #[]), (8, .int .i64 (a0.length : Int)), (9, .int .i64 x1), (10, .int .i64 x2)] ∧ St w0 F0 [] [rdC 9 .str a0 (.slice A1 a0.length c_1)] w ∧ slices_BinarySearchFunc_string_string_string_lex_Compare.l0 kk a0 a1 x1 x2 = some r) (k := k) ⟨0, (a0.length : Int), rfl, h6, H⟩ ?_
  rintro k1 env w1 ⟨x1, x2, rfl, h1, H⟩
  cases k1 with
  | zero => exact nomatch (show none = some r from H)
  | succ k1 =>
    rw [slices_BinarySearchFunc_string_string_string_lex_Compare.l0] at H
    refine J.seq (J.seq (J.region ?_))
    refine RJ.run ttok 3 rfl ?_
    refine RJ.fin [(0, _), (1, _), (2, _), (8, _), (9, _), (10, _), (17, .bool (decide (x1 < x2)))] rfl ?_
    refine J.cond rfl (fun c1 => ?_) (fun c1 => ?_)
    · replace H := ite_t c1 H
      refine J.skip ?_
      refine J.block (J.seq (J.region ?_))
      refine RJ.run ttok 7 rfl ?_
      refine RJ.fin [(0, _), (1, _), (2, _), (8, _), (9, _), (10, _), (11, .int .i64 (w64 ((Int.fdiv (IntKind.u64.wrap ((w64 (x1 + x2)))) (2 ^ 1)))))] rfl ?_
      refine J.seq (J.region ?_)
      refine RJ.run ttok 3 rfl ?_
      obtain ⟨⟨p1, p2⟩, H⟩ := guard_t H
      have e1 := elem_A h1.wh (Gives.self 0 rfl) p1 p2
      refine RJ.q rfl rfl (q_index ttok rfl rfl rfl rfl rfl e1 p1 p2) ?_
      refine RJ.q rfl rfl (q_load_elem (f := 0) ttok rfl h1.wht (Gives.self 0 rfl) p1 p2 rfl rfl rfl rfl rfl) ?_
      refine RJ.run ttok 1 rfl ?_
      obtain ⟨r1, q1, H⟩ := bind_t H
      refine RJ.op rfl rfl (op_call [] (lex_Compare.spec q1) rfl rfl rfl h1 rfl gnil) ?_
      rintro _ w2 ⟨_, ⟨rfl, rfl⟩, h2⟩
      replace h2 : St w0 F0 [] _ _ := h2
      refine RJ.run ttok 1 rfl ?_
      refine RJ.fin [(0, _), (1, _), (2, _), (8, _), (9, _), (10, _), (11, _), (31, .bool (decide (r1 < 0)))] rfl ?_
      refine J.cond rfl (fun c2 => ?_) (fun c2 => ?_)
      · replace H := ite_t c2 H
        refine J.region ?_
        refine RJ.run ttok 3 rfl ?_
        refine RJ.fin [(0, _), (1, _), (2, _), (8, _), (9, .int .i64 (w64 ((w64 ((Int.fdiv (IntKind.u64.wrap ((w64 (x1 + x2)))) (2 ^ 1)))) + 1))), (10, _)] rfl ?_
        have h3 := ((h2.only [] rfl).rds [0] rfl)
        exact ⟨k1, by omega, (w64 ((w64 ((Int.fdiv (IntKind.u64.wrap ((w64 (x1 + x2)))) (2 ^ 1)))) + 1)), x2, rfl, h3, H⟩
      replace H := ite_f c2 H
      refine J.region ?_
      refine RJ.run ttok 2 rfl ?_
      refine RJ.fin [(0, _), (1, _), (2, _), (8, _), (9, _), (10, .int .i64 (w64 ((Int.fdiv (IntKind.u64.wrap ((w64 (x1 + x2)))) (2 ^ 1)))))] rfl ?_
      have h4 := ((h2.only [] rfl).rds [0] rfl)
      exact ⟨k1, by omega, x1, (w64 ((Int.fdiv (IntKind.u64.wrap ((w64 (x1 + x2)))) (2 ^ 1)))), rfl, h4, H⟩
    replace H := ite_f c1 H
    refine J.exit ?_
    refine J.seq (J.region ?_)
    refine RJ.run ttok 5 rfl ?_
    rcases Bool.eq_false_or_eq_true (decide (x1 < (a0.length : Int))) with c3 | c3
    · replace H := ite_t c3 H
      refine RJ.know (t := 39) rfl (congrArg Value.bool c3) ?_
      refine RJ.run ttok 3 rfl ?_
      obtain ⟨⟨p3, p4⟩, H⟩ := guard_t H
      have e2 := elem_A h1.wh (Gives.self 0 rfl) p3 p4
      refine RJ.q rfl rfl (q_index ttok rfl rfl rfl rfl rfl e2 p3 p4) ?_
      refine RJ.q rfl rfl (q_load_elem (f := 0) ttok rfl h1.wht (Gives.self 0 rfl) p3 p4 rfl rfl rfl rfl rfl) ?_
      refine RJ.run ttok 1 rfl ?_
      obtain ⟨r2, q2, H⟩ := bind_t H
      refine RJ.op rfl rfl (op_call [] (lex_Compare.spec q2) rfl rfl rfl h1 rfl gnil) ?_
      rintro _ w3 ⟨_, ⟨rfl, rfl⟩, h5⟩
      replace h5 : St w0 F0 [] _ _ := h5
      refine RJ.run ttok 4 rfl ?_
      refine RJ.fin [(6, .int .i64 x1), (7, .bool (decide (r2 = 0)))] rfl ?_
      refine J.ret ?_
      obtain rfl := Option.some.inj H
      exact ⟨_, _, _, (results_slots rfl), ⟨rfl, rfl⟩, h5.only [] rfl⟩
    replace H := ite_f c3 H
    refine RJ.know (t := 39) rfl (congrArg Value.bool c3) ?_
    refine RJ.run ttok 11 rfl ?_
    refine RJ.fin [(6, .int .i64 x1), (7, .bool false)] rfl ?_
    refine J.ret ?_
    obtain rfl := Option.some.inj H
    exact ⟨_, _, _, (results_slots rfl), ⟨rfl, rfl⟩, h1.only [] rfl⟩

/-! sluicegate/fan.Way -/
def fan_Way.f (k : Nat) (a0 : List (List UInt8)) (a1 : List UInt8) : Option (Int) := (slices_BinarySearchFunc_string_string_string_lex_Compare.f k a0 a1).bind fun r1 => (if r1.2 = true then (some (w64 (r1.1 + 1))) else (some r1.1))
set_option maxRecDepth 20000 in
set_option maxHeartbeats 40000000 in
theorem fan_Way.spec {k : Nat} {a0 : List (List UInt8)} {a1 : List UInt8} {A1 : Option Addr} {c_1 : Nat} {r : Int} (H : fan_Way.f k a0 a1 = some r) :
    Spec Try.prog 72 [.slice A1 a0.length c_1, .string ⟨⟨a1⟩⟩] [] [rdC 9 .str a0 (.slice A1 a0.length c_1)] (fun v l => v = .int .i64 r ∧ l = []) := by
  refine Spec.enter Try.func72 rfl (by kernel_rfl) (by kernel_rfl) fun w0 F0 h0 => ?_
  unfold fan_Way.f at H
  refine J.seq (J.region ?_)
  refine RJ.run ttok 1 rfl ?_
  refine RJ.fin [(0, .slice A1 a0.length c_1), (1, .string ⟨⟨a1⟩⟩)] rfl ?_
  refine J.seq (J.region ?_)
  refine RJ.run ttok 2 rfl ?_
  obtain ⟨r1, q1, H⟩ := bind_t H
  refine RJ.op rfl rfl (op_call [] (slices_BinarySearchFunc_string_string_string_lex_Compare.spec q1) rfl rfl rfl h0 rfl (gcons (Gives.self 0 rfl) gnil)) ?_
  rintro _ w1 ⟨_, ⟨rfl, rfl⟩, h1⟩
  replace h1 : St w0 F0 [] _ _ := h1
  refine RJ.run ttok 5 rfl ?_
  refine RJ.fin [(5, .int .i64 r1.1), (6, .bool r1.2)] rfl ?_
  refine J.seq (J.seq (J.region ?_))
  refine RJ.run ttok 1 rfl ?_
  refine RJ.fin [(5, _), (13, .bool r1.2)] rfl ?_
  refine J.cond rfl (fun c1 => ?_) (fun c1 => ?_)
  · replace H := ite_t c1 H
    refine J.region ?_
    refine RJ.run ttok 3 rfl ?_
    refine RJ.fin [(5, .int .i64 (w64 (r1.1 + 1)))] rfl ?_
    refine J.seq (J.region ?_)
    refine RJ.run ttok 2 rfl ?_
    refine RJ.fin [(4, .int .i64 (w64 (r1.1 + 1)))] rfl ?_
    refine J.ret ?_
    obtain rfl := Option.some.inj H
    exact ⟨_, _, _, (results_slots rfl), ⟨rfl, rfl⟩, h1.only [] rfl⟩
  replace H := ite_f c1 H
  refine J.skip ?_
  refine J.seq (J.region ?_)
  refine RJ.run ttok 2 rfl ?_
  refine RJ.fin [(4, .int .i64 r1.1)] rfl ?_
  refine J.ret ?_
  obtain rfl := Option.some.inj H
  exact ⟨_, _, _, (results_slots rfl), ⟨rfl, rfl⟩, h1.only [] rfl⟩

/-! sluicegate/node.Loads -/
def node_Loads.l0 : Nat → (Int × List (Int) × List (List UInt8) × (List (List UInt8 × Bool × List UInt8)) × (List (List UInt8 × List UInt8))) → (List (Int)) → (Int) → Option (List (Int))
  | 0, _, _, _ => none
  | k + 1, a0, x1, x2 => if (decide (x2 < (a0.2.2.2.1.length : Int))) = true then (if 0 ≤ x2 ∧ x2 < (a0.2.2.2.1.length : Int) then ((fan_Way.f k a0.2.2.1 ((gt a0.2.2.2.1 x2).1)).bind fun r1 => (if (decide (r1 < (x1.length : Int))) = true then (if 0 ≤ r1 ∧ r1 < (x1.length : Int) then (node_Loads.l0 k a0 (x1.set r1.toNat (w64 ((gt x1 r1) + 1))) (w64 (x2 + 1))) else none) else (node_Loads.l0 k a0 x1 (w64 (x2 + 1))))) else none) else (some x1)
def node_Loads.f (k : Nat) (a0 : Int × List (Int) × List (List UInt8) × (List (List UInt8 × Bool × List UInt8)) × (List (List UInt8 × List UInt8))) : Option (List (Int)) := if 0 ≤ (a0.2.1.length : Int) ∧ (a0.2.1.length : Int) * 8 ≤ 281474976710656 then (node_Loads.l0 k a0 (List.replicate ((a0.2.1.length : Int).toNat) (0 : Int)) 0) else none
set_option maxRecDepth 20000 in
set_option maxHeartbeats 40000000 in
theorem node_Loads.spec {k : Nat} {a0 : Int × List (Int) × List (List UInt8) × (List (List UInt8 × Bool × List UInt8)) × (List (List UInt8 × List UInt8))} {A1 : Option Addr} {c_1 : Nat} {A2 : Option Addr} {c_2 : Nat} {A3 : Option Addr} {c_3 : Nat} {A4 : Option Addr} {c_4 : Nat} {r : List (Int)} (H : node_Loads.f k a0 = some r) :
    Spec Try.prog 33 [.agg #[.int .i64 a0.1, .slice A1 a0.2.1.length c_1, .slice A2 a0.2.2.1.length c_2, .slice A3 a0.2.2.2.1.length c_3, .slice A4 a0.2.2.2.2.length c_4]] [] [rdC 46 (.int .u32) a0.2.1 (.slice A1 a0.2.1.length c_1), rdC 9 .str a0.2.2.1 (.slice A2 a0.2.2.1.length c_2), rdC 48 (.pair .str (.pair .bool .str)) a0.2.2.2.1 (.slice A3 a0.2.2.2.1.length c_3), rdC 50 (.pair .str .str) a0.2.2.2.2 (.slice A4 a0.2.2.2.2.length c_4)] (fun v l => ∃ (A_0 : Option Addr) (c_0 : Nat), v = .slice A_0 r.length c_0 ∧ l = [ownC 3 (.int .i64) r (.slice A_0 r.length c_0)]) := by
  refine Spec.enter Try.func33 rfl (by kernel_rfl) (by kernel_rfl) fun w0 F0 h0 => ?_
  unfold node_Loads.f at H
  refine J.seq (J.region ?_)
  refine RJ.op rfl rfl (op_box rfl rfl h0) ?_
  rintro _ w1 ⟨b1, rfl, h1⟩
  replace h1 : St w0 F0 [boxC b1 31 [.int .i64 a0.1, .slice A1 a0.2.1.length c_1, .slice A2 a0.2.2.1.length c_2, .slice A3 a0.2.2.2.1.length c_3, .slice A4 a0.2.2.2.2.length c_4]] _ _ := h1
  refine RJ.run ttok 1 rfl ?_
  refine RJ.fin [(1, .pointer (some ⟨b1, 0, none⟩))] rfl ?_
  refine J.seq (J.region ?_)
  refine RJ.run ttok 1 rfl ?_
  refine RJ.q rfl rfl (q_load_box ttok 0 h1.wht rfl rfl rfl rfl rfl) ?_
  refine RJ.run ttok 1 rfl ?_
  obtain ⟨⟨p1, p2⟩, H⟩ := guard_t H
  refine RJ.op rfl rfl (op_make ttok (ty := (.int .i64)) rfl (0 : Int) rfl rfl rfl rfl rfl rfl rfl (by decide) h1 p1 p2) ?_
  rintro _ w2 ⟨b2, rfl, h2⟩
  replace h2 : St w0 F0 [ownC 3 (.int .i64) (List.replicate ((a0.2.1.length : Int).toNat) (0 : Int)) (.slice (some ⟨b2, 0, none⟩) (List.replicate ((a0.2.1.length : Int).toNat) (0 : Int)).length ((a0.2.1.length : Int).toNat)), _] _ _ := h2
  refine RJ.run ttok 1 rfl ?_
  refine RJ.fin [(1, _), (3, .slice (some ⟨b2, 0, none⟩) (List.replicate ((a0.2.1.length : Int).toNat) (0 : Int)).length ((a0.2.1.length : Int).toNat))] rfl ?_
  refine J.seq (J.seq (J.region ?_))
  refine RJ.run ttok 1 rfl ?_
  refine RJ.q rfl rfl (q_load_box ttok 1 h2.wht rfl rfl rfl rfl rfl) ?_
  refine RJ.run ttok 2 rfl ?_
  refine RJ.fin [(1, _), (3, _), (12, .slice A3 a0.2.2.2.1.length c_3), (13, .int .i64 (a0.2.2.2.1.length : Int)), (14, .int .i64 0)] rfl ?_
  refine J.block ?_
  have h10 := ((h2.only [1, 0] rfl).rds [0, 1, 2, 3] rfl)
  refine J.loop (fun kk env w => ∃ (x1 : List (Int)) (A5 : Option Addr) (c_5 : Nat) (x2 : Int), env = [(1, .pointer (some ⟨b1, 0, none⟩)), (3, .slice A5 x1.length c_5), (12, .slice A3 a0.2.2.2.1.length c_3), (13, .int .i64 (a0.2.2.2.1.length : Int)), (14, .int .i64 x2)] ∧ St w0 F0 [boxC b1 31 [.int .i64 a0.1, .slice A1 a0.2.1.length c_1, .slice A2 a0.2.2.1.length c_2, .slice A3 a0.2.2.2.1.length c_3, .slice A4 a0.2.2.2.2.length c_4], ownC 3 (.int .i64) x1 (.slice A5 x1.length c_5)] [rdC 46 (.int .u32) a0.2.1 (.slice A1 a0.2.1.length c_1), rdC 9 .str a0.2.2.1 (.slice A2 a0.2.2.1.length c_2), rdC 48 (.pair .str (.pair .bool .str)) a0.2.2.2.1 (.slice A3 a0.2.2.2.1.length c_3), rdC 50 (.pair .str .str) a0.2.2.2.2 (.slice A4 a0.2.2.2.2.length c_4)] w ∧ node_Loads.l0 kk a0 x1 x2 = some r) (k := k) ⟨(List.replicate ((a0.2.1.length : Int).toNat) (0 : Int)), (some ⟨b2, 0, none⟩), ((a0.2.1.length : Int).toNat), 0, rfl, h10, H⟩ ?_
  rintro k1 env w3 ⟨x1, A5, c_5, x2, rfl, h3, H⟩
  cases k1 with
  | zero => exact nomatch (show none = some r from H)
  | succ k1 =>
    rw [node_Loads.l0] at H
    refine J.seq (J.region ?_)
    refine RJ.run ttok 1 rfl ?_
    refine RJ.fin [(1, _), (3, _), (12, _), (13, _), (14, _), (15, .bool (decide (x2 < (a0.2.2.2.1.length : Int))))] rfl ?_
    refine J.seq ?_
    refine J.cond rfl (fun c1 => ?_) (fun c1 => ?_)
    · replace H := ite_t c1 H
      refine J.skip ?_
      refine J.seq (J.block (J.seq (J.region ?_)))
      obtain ⟨⟨p3, p4⟩, H⟩ := guard_t H
      have e1 := elem_A h3.wh (Gives.self 4 rfl) p3 p4
      refine RJ.q rfl rfl (q_index ttok rfl rfl rfl rfl rfl e1 p3 p4) ?_
      refine RJ.q rfl rfl (q_load_elem (f := 0) ttok rfl h3.wht (Gives.self 4 rfl) p3 p4 rfl rfl rfl rfl rfl) ?_
      refine RJ.op rfl rfl (op_alloc ttok rfl rfl h3) ?_
      rintro _ w4 ⟨b3, rfl, h4⟩
      replace h4 : St w0 F0 [boxC b3 48 [.string ⟨⟨([] : List UInt8)⟩⟩, .bool false, .string ⟨⟨([] : List UInt8)⟩⟩], _, _] _ _ := h4
      refine RJ.op rfl rfl (op_store ttok 0 rfl h4 rfl rfl rfl rfl rfl rfl rfl) ?_
      intro _ w5 h5
      replace h5 : St w0 F0 [boxC b3 48 [.string ⟨⟨(gt a0.2.2.2.1 x2).1⟩⟩, .bool ((gt a0.2.2.2.1 x2).2.1), .string ⟨⟨(gt a0.2.2.2.1 x2).2.2⟩⟩], _, _] _ _ := h5
      refine RJ.fin [(1, _), (3, _), (5, .pointer (some ⟨b3, 0, none⟩)), (12, _), (13, _), (14, _)] rfl ?_
      refine J.seq (J.region ?_)
      refine RJ.run ttok 1 rfl ?_
      refine RJ.q rfl rfl (q_load_box ttok 1 h5.wht rfl rfl rfl rfl rfl) ?_
      refine RJ.run ttok 1 rfl ?_
      refine RJ.q rfl rfl (q_load_box ttok 0 h5.wht rfl rfl rfl rfl rfl) ?_
      obtain ⟨r1, q1, H⟩ := bind_t H
      refine RJ.op rfl rfl (op_call [] (fan_Way.spec q1) rfl rfl rfl h5 rfl (gcons (Gives.self 4 rfl) gnil)) ?_
      rintro _ w6 ⟨_, ⟨rfl, rfl⟩, h6⟩
      replace h6 : St w0 F0 [_, _, _] _ _ := h6
      refine RJ.run ttok 1 rfl ?_
      refine RJ.fin [(1, _), (3, _), (6, .int .i64 r1), (12, _), (13, _), (14, _)] rfl ?_
      refine J.seq (J.region ?_)
      refine RJ.run ttok 4 rfl ?_
      refine RJ.fin [(1, _), (3, _), (6, _), (12, _), (13, _), (14, _), (26, .bool (decide (r1 < (x1.length : Int))))] rfl ?_
      refine J.cond rfl (fun c2 => ?_) (fun c2 => ?_)
      · replace H := ite_t c2 H
        refine J.region ?_
        refine RJ.run ttok 2 rfl ?_
        obtain ⟨⟨p5, p6⟩, H⟩ := guard_t H
        have e2 := elem_A h6.wh (Gives.of 2 rfl own_rd) p5 p6
        refine RJ.q rfl rfl (q_index ttok rfl rfl rfl rfl rfl e2 p5 p6) ?_
        refine RJ.q rfl rfl (q_load_elem (f := 0) ttok rfl h6.wht (Gives.of 2 rfl own_rd) p5 p6 rfl rfl rfl rfl rfl) ?_
        refine RJ.run ttok 1 rfl ?_
        refine RJ.q rfl rfl (q_index ttok rfl rfl rfl rfl rfl e2 p5 p6) ?_
        refine RJ.op rfl rfl (op_store_elem (ty := (.int .i64)) (f := 0) (ix := r1) ttok rfl (w64 ((gt x1 r1) + 1)) 2 rfl h6 rfl rfl p5 p6 rfl rfl rfl rfl rfl rfl rfl) ?_
        intro _ w7 h7
        replace h7 : St w0 F0 [ownC 3 (.int .i64) (x1.set r1.toNat (w64 ((gt x1 r1) + 1))) (.slice A5 (x1.set r1.toNat (w64 ((gt x1 r1) + 1))).length c_5), _, _] _ _ := h7
        refine RJ.fin [(1, _), (3, _), (12, _), (13, _), (14, _)] rfl ?_
        refine J.envEq (env' := [(1, .pointer (some ⟨b1, 0, none⟩)), (3, .slice A5 (x1.set r1.toNat (w64 ((gt x1 r1) + 1))).length c_5), (12, .slice A3 a0.2.2.2.1.length c_3), (13, .int .i64 (a0.2.2.2.1.length : Int)), (14, .int .i64 x2)]) (by simp only [List.length_set]) ?_
        refine J.region ?_
        refine RJ.run ttok 2 rfl ?_
        refine RJ.fin [(1, _), (3, _), (12, _), (13, _), (14, .int .i64 (w64 (x2 + 1)))] rfl ?_
        have h8 := ((h7.only [2, 0] rfl).rds [0, 1, 2, 3] rfl)
        exact ⟨k1, by omega, (x1.set r1.toNat (w64 ((gt x1 r1) + 1))), A5, c_5, (w64 (x2 + 1)), rfl, h8, H⟩
      replace H := ite_f c2 H
      refine J.skip ?_
      refine J.region ?_
      refine RJ.run ttok 2 rfl ?_
      refine RJ.fin [(1, _), (3, _), (12, _), (13, _), (14, .int .i64 (w64 (x2 + 1)))] rfl ?_
      have h9 := ((h6.only [1, 1] rfl).rds [0, 1, 2, 3] rfl)
      exact ⟨k1, by omega, x1, A5, c_5, (w64 (x2 + 1)), rfl, h9, H⟩
    replace H := ite_f c1 H
    refine J.exit ?_
    refine J.seq (J.region ?_)
    refine RJ.run ttok 2 rfl ?_
    refine RJ.fin [(2, .slice A5 x1.length c_5)] rfl ?_
    refine J.ret ?_
    obtain rfl := Option.some.inj H
    exact ⟨_, _, _, (results_slots rfl), ⟨_, _, rfl, rfl⟩, h3.only [1] rfl⟩

/-! (*sluicegate/node.ranks).Push -/
def node_ranks_Push_if_node_kid.f (a0 : List (Int × Int)) (a1 : Int × Int) : Option ((List (Int × Int))) := if (a0.length + ([(a1.1, a1.2)] : List (Int × Int)).length) * 16 ≤ 140737488355328 then (some (a0 ++ ([(a1.1, a1.2)] : List (Int × Int)))) else none
set_option maxRecDepth 20000 in
set_option maxHeartbeats 40000000 in
theorem node_ranks_Push_if_node_kid.spec {a0 : List (Int × Int)} {a1 : Int × Int} {b1 : Nat} {A1 : Option Addr} {c_1 : Nat} {r : (List (Int × Int))} (H : node_ranks_Push_if_node_kid.f a0 a1 = some r) :
    Spec Try.prog 162 [.pointer (some ⟨b1, 0, none⟩), .iface 93 (.agg #[.int .i64 a1.1, .int .i64 a1.2])] [boxC b1 90 [.slice A1 a0.length c_1], ownC 93 (.pair (.int .i64) (.int .i64)) a0 (.slice A1 a0.length c_1)] [] (fun v l => ∃ (A_0 : Option Addr) (c_0 : Nat), v = .tuple #[] ∧ l = [boxC b1 90 [.slice A_0 r.length c_0], ownC 93 (.pair (.int .i64) (.int .i64)) r (.slice A_0 r.length c_0)]) := by
  refine Spec.enter Try.func162 rfl (by kernel_rfl) (by kernel_rfl) fun w0 F0 h0 => ?_
  unfold node_ranks_Push_if_node_kid.f at H
  refine J.seq (J.region ?_)
  refine RJ.run ttok 1 rfl ?_
  refine RJ.q rfl rfl (q_assert ttok rfl rfl rfl rfl) ?_
  refine RJ.run ttok 3 rfl ?_
  refine RJ.op rfl rfl (op_alloc ttok rfl rfl h0) ?_
  rintro _ w1 ⟨b2, rfl, h1⟩
  replace h1 : St w0 F0 [boxC b2 93 [.int .i64 0, .int .i64 0], boxC b1 90 [.slice A1 a0.length c_1], ownC 93 (.pair (.int .i64) (.int .i64)) a0 (.slice A1 a0.length c_1)] _ _ := h1
  refine RJ.op rfl rfl (op_store ttok 0 rfl h1 rfl rfl rfl rfl rfl rfl rfl) ?_
  intro _ w2 h2
  replace h2 : St w0 F0 [boxC b2 93 [.int .i64 a1.1, .int .i64 a1.2], _, _] _ _ := h2
  refine RJ.run ttok 1 rfl ?_
  refine RJ.fin [(0, .pointer (some ⟨b1, 0, none⟩)), (4, .pointer (some ⟨b2, 0, none⟩)), (5, .bool true)] rfl ?_
  refine J.seq (J.region ?_)
  refine RJ.run ttok 1 rfl ?_
  refine RJ.fin [(0, _), (4, _), (11, .bool true)] rfl ?_
  refine J.condT rfl ?_
  obtain ⟨p1, H⟩ := guard_t H
  refine J.mid (fun env w => ∃ (A2 : Option Addr) (c_2 : Nat), env = [] ∧ St w0 F0 [boxC b1 90 [.slice A2 (a0 ++ ([(a1.1, a1.2)] : List (Int × Int))).length c_2], ownC 93 (.pair (.int .i64) (.int .i64)) (a0 ++ ([(a1.1, a1.2)] : List (Int × Int))) (.slice A2 (a0 ++ ([(a1.1, a1.2)] : List (Int × Int))).length c_2), boxC b2 93 [.int .i64 a1.1, .int .i64 a1.2]] [] w) ?_ ?_
  · refine J.heldSt mix (h2.only [0] rfl) ?_
    have h6 := h2.drew
    refine HJ.run ttok rfl [0, 1, 2] rfl ?_
    refine HJ.q (i := 4) rfl rfl rfl rfl rfl rfl (q_load_box ttok 0 (fun w e => e) rfl rfl rfl rfl rfl) ?_
    refine HJ.pick [3, 5] (i := 3) rfl rfl rfl rfl ?_
    refine (hscons ?_ (hscons ?_ hsnil))
    · refine HS.op (i := 3) rfl rfl rfl (OpT.ofq (q_load_box ttok 1 h6.wht rfl rfl rfl rfl rfl)) ?_
      rintro _ _ ⟨rfl, rfl⟩
      replace h6 : St w0 F0 [_, _, _] _ _ := h6
      refine ⟨⟨[_, _], (h6.only [1, 1, 0] rfl)⟩, ?_⟩
      refine HJ.op (i := 5) rfl rfl rfl rfl rfl (op_lit ttok (.pair (.int .i64) (.int .i64)) rfl ([(a1.1, a1.2)] : List (Int × Int)) rfl h6 rfl rfl (by decide) rfl rfl rfl rfl rfl rfl rfl) ?_
      rintro _ w8 ⟨b4, rfl, h7⟩
      replace h7 : St w0 F0 [ownC 93 (.pair (.int .i64) (.int .i64)) ([(a1.1, a1.2)] : List (Int × Int)) (.slice (some ⟨b4, 0, none⟩) ([(a1.1, a1.2)] : List (Int × Int)).length 1), _, _, _] _ _ := h7
      refine ⟨⟨[_, _, _], (h7.only [0, 1, 1, 0] rfl)⟩, ?_⟩
      refine HJ.op (i := 6) rfl rfl rfl rfl rfl (op_append ttok rfl 3 rfl h7 rfl (Gives.of 0 rfl own_rd) rfl rfl rfl rfl rfl rfl (by decide) (by decide) p1) ?_
      rintro _ w9 ⟨A3, c_3, rfl, h8⟩
      replace h8 : St w0 F0 [ownC 93 (.pair (.int .i64) (.int .i64)) (a0 ++ ([(a1.1, a1.2)] : List (Int × Int))) (.slice A3 (a0 ++ ([(a1.1, a1.2)] : List (Int × Int))).length c_3), _, _, _] _ _ := h8
      refine ⟨⟨[_, _, _], (h8.only [0, 0, 1, 0] rfl)⟩, ?_⟩
      refine HJ.run ttok rfl [7] rfl ?_
      refine HJ.op (i := 8) rfl rfl rfl rfl rfl (op_store ttok 3 rfl h8 rfl rfl rfl rfl rfl rfl rfl) ?_
      intro _ w10 h9
      replace h9 : St w0 F0 [boxC b1 90 [.slice A3 (a0 ++ ([(a1.1, a1.2)] : List (Int × Int))).length c_3], _, _, _] _ _ := h9
      refine ⟨⟨[_, _, _], h9⟩, ?_⟩
      refine HJ.fin [] rfl rfl ?_
      exact thenP_intro ⟨A3, c_3, rfl, ((h9.only [0, 0, 1] rfl).rds [] rfl)⟩
    · refine HS.op (i := 5) rfl rfl rfl (op_lit ttok (.pair (.int .i64) (.int .i64)) rfl ([(a1.1, a1.2)] : List (Int × Int)) rfl h6 rfl rfl (by decide) rfl rfl rfl rfl rfl rfl rfl) ?_
      rintro _ w11 ⟨b5, rfl, h10⟩
      replace h10 : St w0 F0 [ownC 93 (.pair (.int .i64) (.int .i64)) ([(a1.1, a1.2)] : List (Int × Int)) (.slice (some ⟨b5, 0, none⟩) ([(a1.1, a1.2)] : List (Int × Int)).length 1), _, _, _] _ _ := h10
      refine ⟨⟨[_, _, _], (h10.only [0, 1, 1, 0] rfl)⟩, ?_⟩
      refine HJ.op (i := 3) rfl rfl rfl rfl rfl (OpT.ofq (q_load_box ttok 2 h10.wht rfl rfl rfl rfl rfl)) ?_
      rintro _ _ ⟨rfl, rfl⟩
      replace h10 : St w0 F0 [_, _, _, _] _ _ := h10
      refine ⟨⟨[_, _, _], (h10.only [0, 1, 1, 0] rfl)⟩, ?_⟩
      refine HJ.op (i := 6) rfl rfl rfl rfl rfl (op_append ttok rfl 3 rfl h10 rfl (Gives.of 0 rfl own_rd) rfl rfl rfl rfl rfl rfl (by decide) (by decide) p1) ?_
      rintro _ w13 ⟨A4, c_4, rfl, h11⟩
      replace h11 : St w0 F0 [ownC 93 (.pair (.int .i64) (.int .i64)) (a0 ++ ([(a1.1, a1.2)] : List (Int × Int))) (.slice A4 (a0 ++ ([(a1.1, a1.2)] : List (Int × Int))).length c_4), _, _, _] _ _ := h11
      refine ⟨⟨[_, _, _], (h11.only [0, 0, 1, 0] rfl)⟩, ?_⟩
      refine HJ.run ttok rfl [7] rfl ?_
      refine HJ.op (i := 8) rfl rfl rfl rfl rfl (op_store ttok 3 rfl h11 rfl rfl rfl rfl rfl rfl rfl) ?_
      intro _ w14 h12
      replace h12 : St w0 F0 [boxC b1 90 [.slice A4 (a0 ++ ([(a1.1, a1.2)] : List (Int × Int))).length c_4], _, _, _] _ _ := h12
      refine ⟨⟨[_, _, _], h12⟩, ?_⟩
      refine HJ.fin [] rfl rfl ?_
      exact thenP_intro ⟨A4, c_4, rfl, ((h12.only [0, 0, 1] rfl).rds [] rfl)⟩
  rintro env w15 ⟨A2, c_2, rfl, h13⟩
  obtain rfl := Option.some.inj H
  exact ⟨_, _, _, (results_slots rfl), ⟨_, _, rfl, rfl⟩, h13.only [0, 0] rfl⟩

/-! (sluicegate/node.ranks).Len -/
def node_ranks_Len.f (a0 : List (Int × Int)) : Option (Int) := some (a0.length : Int)
set_option maxRecDepth 20000 in
set_option maxHeartbeats 40000000 in
theorem node_ranks_Len.spec {a0 : List (Int × Int)} {A1 : Option Addr} {c_1 : Nat} {r : Int} (H : node_ranks_Len.f a0 = some r) :
    Spec Try.prog 74 [.slice A1 a0.length c_1] [] [rdC 93 (.pair (.int .i64) (.int .i64)) a0 (.slice A1 a0.length c_1)] (fun v l => v = .int .i64 r ∧ l = []) := by
  refine Spec.enter Try.func74 rfl (by kernel_rfl) (by kernel_rfl) fun w0 F0 h0 => ?_
  unfold node_ranks_Len.f at H
  refine J.seq (J.region ?_)
  refine RJ.run ttok 1 rfl ?_
  refine RJ.fin [(0, .slice A1 a0.length c_1)] rfl ?_
  refine J.seq (J.region ?_)
  refine RJ.run ttok 3 rfl ?_
  refine RJ.fin [(2, .int .i64 (a0.length : Int))] rfl ?_
  refine J.ret ?_
  obtain rfl := Option.some.inj H
  exact ⟨_, _, _, (results_slots rfl), ⟨rfl, rfl⟩, h0.only [] rfl⟩

/-! (sluicegate/node.ranks).Less -/
def node_ranks_Less.f (a0 : List (Int × Int)) (a1 : Int) (a2 : Int) : Option (Bool) := if 0 ≤ a1 ∧ a1 < (a0.length : Int) then (if 0 ≤ a2 ∧ a2 < (a0.length : Int) then (if (!decide (((gt a0 a1).2) = ((gt a0 a2).2))) = true then (some (decide (((gt a0 a2).2) < ((gt a0 a1).2)))) else (some (decide (((gt a0 a1).1) < ((gt a0 a2).1))))) else none) else none
set_option maxRecDepth 20000 in
set_option maxHeartbeats 40000000 in
theorem node_ranks_Less.spec {a0 : List (Int × Int)} {a1 : Int} {a2 : Int} {A1 : Option Addr} {c_1 : Nat} {r : Bool} (H : node_ranks_Less.f a0 a1 a2 = some r) :
    Spec Try.prog 160 [.slice A1 a0.length c_1, .int .i64 a1, .int .i64 a2] [] [rdC 93 (.pair (.int .i64) (.int .i64)) a0 (.slice A1 a0.length c_1)] (fun v l => v = .bool r ∧ l = []) := by
  refine Spec.enter Try.func160 rfl (by kernel_rfl) (by kernel_rfl) fun w0 F0 h0 => ?_
  unfold node_ranks_Less.f at H
  refine J.seq (J.region ?_)
  refine RJ.run ttok 1 rfl ?_
  refine RJ.fin [(0, .slice A1 a0.length c_1), (1, .int .i64 a1), (2, .int .i64 a2)] rfl ?_
  refine J.seq (J.seq ?_)
  refine J.heldSt mix h0 ?_
  have h1 := h0.drew
  refine HJ.run ttok rfl [0, 1, 5, 6] rfl ?_
  obtain ⟨⟨p1, p2⟩, H⟩ := guard_t H
  have e1 := elem_A h1.wh (Gives.self 0 rfl) p1 p2
  refine HJ.q (i := 2) rfl rfl rfl rfl rfl rfl (q_index ttok rfl rfl rfl rfl rfl e1 p1 p2) ?_
  refine HJ.run ttok rfl [3] rfl ?_
  refine HJ.q (i := 4) rfl rfl rfl rfl rfl rfl (q_load_elem (f := 1) ttok rfl (fun w e => e) (Gives.self 0 rfl) p1 p2 rfl rfl rfl rfl rfl) ?_
  obtain ⟨⟨p3, p4⟩, H⟩ := guard_t H
  refine HJ.q (i := 7) rfl rfl rfl rfl rfl rfl (q_index ttok rfl rfl rfl rfl rfl e1 p3 p4) ?_
  refine HJ.run ttok rfl [8] rfl ?_
  refine HJ.q (i := 9) rfl rfl rfl rfl rfl rfl (q_load_elem (f := 1) ttok rfl (fun w e => e) (Gives.self 0 rfl) p3 p4 rfl rfl rfl rfl rfl) ?_
  refine HJ.run ttok rfl [10] rfl ?_
  refine HJ.fin [(0, _), (1, _), (2, _), (17, .bool (!decide (((gt a0 a1).2) = ((gt a0 a2).2))))] rfl rfl ?_
  refine J.cond rfl (fun c1 => ?_) (fun c1 => ?_)
  · replace H := ite_t c1 H
    refine J.seq ?_
    refine J.heldSt mix h1 ?_
    have h2 := h1.drew
    refine HJ.run ttok rfl [0, 1, 5, 6] rfl ?_
    refine HJ.q (i := 2) rfl rfl rfl rfl rfl rfl (q_index ttok rfl rfl rfl rfl rfl e1 p1 p2) ?_
    refine HJ.run ttok rfl [3] rfl ?_
    refine HJ.q (i := 4) rfl rfl rfl rfl rfl rfl (q_load_elem (f := 1) ttok rfl (fun w e => e) (Gives.self 0 rfl) p1 p2 rfl rfl rfl rfl rfl) ?_
    refine HJ.q (i := 7) rfl rfl rfl rfl rfl rfl (q_index ttok rfl rfl rfl rfl rfl e1 p3 p4) ?_
    refine HJ.run ttok rfl [8] rfl ?_
    refine HJ.q (i := 9) rfl rfl rfl rfl rfl rfl (q_load_elem (f := 1) ttok rfl (fun w e => e) (Gives.self 0 rfl) p3 p4 rfl rfl rfl rfl rfl) ?_
    refine HJ.run ttok rfl [10, 11] rfl ?_
    refine HJ.fin [(6, .bool (decide (((gt a0 a2).2) < ((gt a0 a1).2))))] rfl rfl ?_
    refine J.ret ?_
    obtain rfl := Option.some.inj H
    exact ⟨_, _, _, (results_slots rfl), ⟨rfl, rfl⟩, h2.only [] rfl⟩
  replace H := ite_f c1 H
  refine J.skip ?_
  refine J.seq ?_
  refine J.heldSt mix h1 ?_
  have h3 := h1.drew
  refine HJ.run ttok rfl [0, 1, 5, 6] rfl ?_
  refine HJ.q (i := 2) rfl rfl rfl rfl rfl rfl (q_index ttok rfl rfl rfl rfl rfl e1 p1 p2) ?_
  refine HJ.run ttok rfl [3] rfl ?_
  refine HJ.q (i := 4) rfl rfl rfl rfl rfl rfl (q_load_elem (f := 0) ttok rfl (fun w e => e) (Gives.self 0 rfl) p1 p2 rfl rfl rfl rfl rfl) ?_
  refine HJ.q (i := 7) rfl rfl rfl rfl rfl rfl (q_index ttok rfl rfl rfl rfl rfl e1 p3 p4) ?_
  refine HJ.run ttok rfl [8] rfl ?_
  refine HJ.q (i := 9) rfl rfl rfl rfl rfl rfl (q_load_elem (f := 0) ttok rfl (fun w e => e) (Gives.self 0 rfl) p3 p4 rfl rfl rfl rfl rfl) ?_
  refine HJ.run ttok rfl [10, 11] rfl ?_
  refine HJ.fin [(6, .bool (decide (((gt a0 a1).1) < ((gt a0 a2).1))))] rfl rfl ?_
  refine J.ret ?_
  obtain rfl := Option.some.inj H
  exact ⟨_, _, _, (results_slots rfl), ⟨rfl, rfl⟩, h3.only [] rfl⟩

/-! (sluicegate/node.ranks).Swap -/
def node_ranks_Swap.f (a0 : List (Int × Int)) (a1 : Int) (a2 : Int) : Option ((List (Int × Int))) := if 0 ≤ a2 ∧ a2 < (a0.length : Int) then (if 0 ≤ a1 ∧ a1 < (a0.length : Int) then (some ((a0.set a1.toNat ((gt a0 a2).1, (gt a0 a2).2)).set a2.toNat ((gt a0 a1).1, (gt a0 a1).2))) else none) else none
set_option maxRecDepth 20000 in
set_option maxHeartbeats 40000000 in
theorem node_ranks_Swap.spec {a0 : List (Int × Int)} {a1 : Int} {a2 : Int} {A1 : Option Addr} {c_1 : Nat} {r : (List (Int × Int))} (H : node_ranks_Swap.f a0 a1 a2 = some r) :
    Spec Try.prog 163 [.slice A1 a0.length c_1, .int .i64 a1, .int .i64 a2] [ownC 93 (.pair (.int .i64) (.int .i64)) a0 (.slice A1 a0.length c_1)] [] (fun v l => v = .tuple #[] ∧ l = [ownC 93 (.pair (.int .i64) (.int .i64)) r (.slice A1 r.length c_1)] ∧ r.length = a0.length) := by
  refine Spec.enter Try.func163 rfl (by kernel_rfl) (by kernel_rfl) fun w0 F0 h0 => ?_
  unfold node_ranks_Swap.f at H
  obtain ⟨⟨p1, p2⟩, H⟩ := guard_t H
  obtain ⟨⟨p3, p4⟩, H⟩ := guard_t H
  refine J.mid (fun env w => env = [] ∧ St w0 F0 [ownC 93 (.pair (.int .i64) (.int .i64)) ((a0.set a1.toNat ((gt a0 a2).1, (gt a0 a2).2)).set a2.toNat ((gt a0 a1).1, (gt a0 a1).2)) (.slice A1 ((a0.set a1.toNat ((gt a0 a2).1, (gt a0 a2).2)).set a2.toNat ((gt a0 a1).1, (gt a0 a1).2)).length c_1)] [] w) ?_ ?_
  · refine J.heldSt mix (h0.only [] rfl) ?_
    have h3 := h0.drew
    refine HJ.run ttok rfl [0, 1, 2, 3, 4, 5, 8, 9] rfl ?_
    have e4 := elem_A h3.wh (Gives.of 0 rfl own_rd) p1 p2
    refine HJ.q (i := 6) rfl rfl rfl rfl rfl rfl (q_index ttok rfl rfl rfl rfl rfl e4 p1 p2) ?_
    refine HJ.q (i := 10) rfl rfl rfl rfl rfl rfl (q_index ttok rfl rfl rfl rfl rfl e4 p3 p4) ?_
    refine HJ.pick [7, 11] (i := 7) rfl rfl rfl rfl ?_
    refine (hscons ?_ (hscons ?_ hsnil))
    · refine HS.op (i := 7) rfl rfl rfl (OpT.ofq (q_load_elem (f := 0) ttok rfl h3.wht (Gives.of 0 rfl own_rd) p1 p2 rfl rfl rfl rfl rfl)) ?_
      rintro _ _ ⟨rfl, rfl⟩
      replace h3 : St w0 F0 [ownC 93 (.pair (.int .i64) (.int .i64)) a0 (.slice A1 a0.length c_1)] _ _ := h3
      refine ⟨⟨[_], h3⟩, ?_⟩
      refine HJ.op (i := 11) rfl rfl rfl rfl rfl (OpT.ofq (q_load_elem (f := 0) ttok rfl h3.wht (Gives.of 0 rfl own_rd) p3 p4 rfl rfl rfl rfl rfl)) ?_
      rintro _ _ ⟨rfl, rfl⟩
      replace h3 : St w0 F0 [_] _ _ := h3
      refine ⟨⟨[_], h3⟩, ?_⟩
      refine HJ.q (i := 12) rfl rfl rfl rfl rfl rfl (q_index ttok rfl rfl rfl rfl rfl e4 p3 p4) ?_
      refine HJ.op (i := 13) rfl rfl rfl rfl rfl (op_store_elem (ty := (.pair (.int .i64) (.int .i64))) (f := 0) (ix := a1) ttok rfl ((gt a0 a2).1, (gt a0 a2).2) 0 rfl h3 rfl rfl p3 p4 rfl rfl rfl rfl rfl rfl rfl) ?_
      intro _ w3 h4
      replace h4 : St w0 F0 [ownC 93 (.pair (.int .i64) (.int .i64)) (a0.set a1.toNat ((gt a0 a2).1, (gt a0 a2).2)) (.slice A1 (a0.set a1.toNat ((gt a0 a2).1, (gt a0 a2).2)).length c_1)] _ _ := h4
      refine ⟨⟨[_], h4⟩, ?_⟩
      have e5 : (a0.set a1.toNat ((gt a0 a2).1, (gt a0 a2).2)).length = a0.length := List.length_set.trans (rfl : a0.length = a0.length)
      refine HJ.q (i := 14) rfl rfl rfl rfl rfl rfl (q_index ttok rfl rfl rfl rfl rfl e4 p1 p2) ?_
      refine HJ.op (i := 15) rfl rfl rfl rfl rfl (op_store_elem (ty := (.pair (.int .i64) (.int .i64))) (f := 0) (ix := a2) ttok rfl ((gt a0 a1).1, (gt a0 a1).2) 0 rfl h4 rfl rfl p1 (by simpa only [List.length_set] using p2) rfl rfl rfl rfl rfl rfl rfl) ?_
      intro _ w4 h5
      replace h5 : St w0 F0 [ownC 93 (.pair (.int .i64) (.int .i64)) ((a0.set a1.toNat ((gt a0 a2).1, (gt a0 a2).2)).set a2.toNat ((gt a0 a1).1, (gt a0 a1).2)) (.slice A1 ((a0.set a1.toNat ((gt a0 a2).1, (gt a0 a2).2)).set a2.toNat ((gt a0 a1).1, (gt a0 a1).2)).length c_1)] _ _ := h5
      refine ⟨⟨[_], h5⟩, ?_⟩
      have e6 : ((a0.set a1.toNat ((gt a0 a2).1, (gt a0 a2).2)).set a2.toNat ((gt a0 a1).1, (gt a0 a1).2)).length = a0.length := List.length_set.trans e5
      refine HJ.fin [] rfl rfl ?_
      exact thenP_intro ⟨(by simp only [List.length_set]), ((h5.only [0] rfl).rds [] rfl)⟩
    · refine HS.op (i := 11) rfl rfl rfl (OpT.ofq (q_load_elem (f := 0) ttok rfl h3.wht (Gives.of 0 rfl own_rd) p3 p4 rfl rfl rfl rfl rfl)) ?_
      rintro _ _ ⟨rfl, rfl⟩
      replace h3 : St w0 F0 [ownC 93 (.pair (.int .i64) (.int .i64)) a0 (.slice A1 a0.length c_1)] _ _ := h3
      refine ⟨⟨[_], h3⟩, ?_⟩
      refine HJ.op (i := 7) rfl rfl rfl rfl rfl (OpT.ofq (q_load_elem (f := 0) ttok rfl h3.wht (Gives.of 0 rfl own_rd) p1 p2 rfl rfl rfl rfl rfl)) ?_
      rintro _ _ ⟨rfl, rfl⟩
      replace h3 : St w0 F0 [_] _ _ := h3
      refine ⟨⟨[_], h3⟩, ?_⟩
      refine HJ.q (i := 12) rfl rfl rfl rfl rfl rfl (q_index ttok rfl rfl rfl rfl rfl e4 p3 p4) ?_
      refine HJ.op (i := 13) rfl rfl rfl rfl rfl (op_store_elem (ty := (.pair (.int .i64) (.int .i64))) (f := 0) (ix := a1) ttok rfl ((gt a0 a2).1, (gt a0 a2).2) 0 rfl h3 rfl rfl p3 p4 rfl rfl rfl rfl rfl rfl rfl) ?_
      intro _ w5 h6
      replace h6 : St w0 F0 [ownC 93 (.pair (.int .i64) (.int .i64)) (a0.set a1.toNat ((gt a0 a2).1, (gt a0 a2).2)) (.slice A1 (a0.set a1.toNat ((gt a0 a2).1, (gt a0 a2).2)).length c_1)] _ _ := h6
      refine ⟨⟨[_], h6⟩, ?_⟩
      have e7 : (a0.set a1.toNat ((gt a0 a2).1, (gt a0 a2).2)).length = a0.length := List.length_set.trans (rfl : a0.length = a0.length)
      refine HJ.q (i := 14) rfl rfl rfl rfl rfl rfl (q_index ttok rfl rfl rfl rfl rfl e4 p1 p2) ?_
      refine HJ.op (i := 15) rfl rfl rfl rfl rfl (op_store_elem (ty := (.pair (.int .i64) (.int .i64))) (f := 0) (ix := a2) ttok rfl ((gt a0 a1).1, (gt a0 a1).2) 0 rfl h6 rfl rfl p1 (by simpa only [List.length_set] using p2) rfl rfl rfl rfl rfl rfl rfl) ?_
      intro _ w6 h7
      replace h7 : St w0 F0 [ownC 93 (.pair (.int .i64) (.int .i64)) ((a0.set a1.toNat ((gt a0 a2).1, (gt a0 a2).2)).set a2.toNat ((gt a0 a1).1, (gt a0 a1).2)) (.slice A1 ((a0.set a1.toNat ((gt a0 a2).1, (gt a0 a2).2)).set a2.toNat ((gt a0 a1).1, (gt a0 a1).2)).length c_1)] _ _ := h7
      refine ⟨⟨[_], h7⟩, ?_⟩
      have e8 : ((a0.set a1.toNat ((gt a0 a2).1, (gt a0 a2).2)).set a2.toNat ((gt a0 a1).1, (gt a0 a1).2)).length = a0.length := List.length_set.trans e7
      refine HJ.fin [] rfl rfl ?_
      exact thenP_intro ⟨(by simp only [List.length_set]), ((h7.only [0] rfl).rds [] rfl)⟩
  rintro env w7 ⟨rfl, h8⟩
  have e9 : ((a0.set a1.toNat ((gt a0 a2).1, (gt a0 a2).2)).set a2.toNat ((gt a0 a1).1, (gt a0 a1).2)).length = a0.length := by first | (simp only [List.length_set]; done) | (simp only [List.length_set]; exact (rfl : a0.length = a0.length))
  obtain rfl := Option.some.inj H
  exact ⟨_, _, _, (results_slots rfl), ⟨rfl, rfl, e9⟩, h8.only [0] rfl⟩

/-! container/heap.up -/
def heap_up_if__node_ranks.l0 : Nat → (List (Int × Int)) → (Int) → Option ((List (Int × Int)))
  | 0, _, _ => none
  | k + 1, x1, x2 => if (decide ((w64 (Int.tdiv (w64 (x2 - 1)) 2)) = x2)) = true then (some x1) else ((node_ranks_Less.f x1 x2 (w64 (Int.tdiv (w64 (x2 - 1)) 2))).bind fun r1 => (if (!r1) = true then (some x1) else ((node_ranks_Swap.f x1 (w64 (Int.tdiv (w64 (x2 - 1)) 2)) x2).bind fun r2 => (heap_up_if__node_ranks.l0 k r2 (w64 (Int.tdiv (w64 (x2 - 1)) 2))))))
def heap_up_if__node_ranks.f (k : Nat) (a0 : List (Int × Int)) (a1 : Int) : Option ((List (Int × Int))) := heap_up_if__node_ranks.l0 k a0 a1
set_option maxRecDepth 20000 in
set_option maxHeartbeats 40000000 in
theorem heap_up_if__node_ranks.spec {k : Nat} {a0 : List (Int × Int)} {a1 : Int} {b1 : Nat} {A1 : Option Addr} {c_1 : Nat} {r : (List (Int × Int))} (H : heap_up_if__node_ranks.f k a0 a1 = some r) :
    Spec Try.prog 99 [.iface 88 (.pointer (some ⟨b1, 0, none⟩)), .int .i64 a1] [boxC b1 90 [.slice A1 a0.length c_1], ownC 93 (.pair (.int .i64) (.int .i64)) a0 (.slice A1 a0.length c_1)] [] (fun v l => ∃ (A_0 : Option Addr) (c_0 : Nat), v = .tuple #[] ∧ l = [boxC b1 90 [.slice A_0 r.length c_0], ownC 93 (.pair (.int .i64) (.int .i64)) r (.slice A_0 r.length c_0)]) := by
  refine Spec.enter Try.func99 rfl (by kernel_rfl) (by kernel_rfl) fun w0 F0 h0 => ?_
  unfold heap_up_if__node_ranks.f at H
  refine J.block ?_
  have h5 := ((h0.only [0, 0] rfl).rds [] rfl)
  refine J.loop (fun kk env w => ∃ (x1 : List (Int × Int)) (A2 : Option Addr) (c_2 : Nat) (x2 : Int), env = [(0, .iface 88 (.pointer (some ⟨b1, 0, none⟩))), (1, .int .i64 x2)] ∧ St w0 F0 [boxC b1 90 [.slice A2 x1.length c_2], ownC 93 (.pair (.int .i64) (.int .i64)) x1 (.slice A2 x1.length c_2)] [] w ∧ heap_up_if__node_ranks.l0 kk x1 x2 = some r) (k := k) ⟨a0, A1, c_1, a1, rfl, h5, H⟩ ?_
  rintro k1 env w1 ⟨x1, A2, c_2, x2, rfl, h1, H⟩
  cases k1 with
  | zero => exact nomatch (show none = some r from H)
  | succ k1 =>
    rw [heap_up_if__node_ranks.l0] at H
    refine J.block (J.seq (J.region ?_))
    refine RJ.run ttok 4 rfl ?_
    refine RJ.fin [(0, _), (1, _), (4, .int .i64 (w64 (Int.tdiv (w64 (x2 - 1)) 2)))] rfl ?_
    refine J.seq (J.seq (J.region ?_))
    refine RJ.run ttok 4 rfl ?_
    rcases Bool.eq_false_or_eq_true (decide ((w64 (Int.tdiv (w64 (x2 - 1)) 2)) = x2)) with c1 | c1
    · replace H := ite_t c1 H
      refine RJ.know (t := 11) rfl (congrArg Value.bool c1) ?_
      refine RJ.run ttok 6 rfl ?_
      refine RJ.fin [(0, _), (1, _), (4, _), (17, .bool true)] rfl ?_
      refine J.condT rfl ?_
      refine J.exit ?_
      obtain rfl := Option.some.inj H
      exact ⟨_, _, _, (results_slots rfl), ⟨_, _, rfl, rfl⟩, h1.only [0, 0] rfl⟩
    replace H := ite_f c1 H
    refine RJ.know (t := 11) rfl (congrArg Value.bool c1) ?_
    refine RJ.run ttok 3 rfl ?_
    obtain ⟨r1, q1, H⟩ := bind_t H
    refine RJ.op rfl rfl (op_invoke [] (node_ranks_Less.spec q1) rfl rfl (meth_val (e := 90) (by kernel_rfl) (by kernel_rfl) (loadVar_box (t := 90) ttok 0 h1 rfl rfl rfl)) rfl h1 rfl (gcons (Gives.of 1 rfl own_rd) gnil)) ?_
    rintro _ w2 ⟨_, ⟨rfl, rfl⟩, h2⟩
    replace h2 : St w0 F0 [_, _] _ _ := h2
    refine RJ.run ttok 2 rfl ?_
    refine RJ.fin [(0, _), (1, _), (4, _), (17, .bool (!r1))] rfl ?_
    refine J.cond rfl (fun c2 => ?_) (fun c2 => ?_)
    · replace H := ite_t c2 H
      refine J.exit ?_
      obtain rfl := Option.some.inj H
      exact ⟨_, _, _, (results_slots rfl), ⟨_, _, rfl, rfl⟩, h2.only [0, 0] rfl⟩
    replace H := ite_f c2 H
    refine J.skip ?_
    refine J.seq (J.region ?_)
    refine RJ.run ttok 3 rfl ?_
    obtain ⟨r2, q2, H⟩ := bind_t H
    refine RJ.op rfl rfl (op_invoke [1] (node_ranks_Swap.spec q2) rfl rfl (meth_val (e := 90) (by kernel_rfl) (by kernel_rfl) (loadVar_box (t := 90) ttok 0 h2 rfl rfl rfl)) rfl h2 rfl gnil) ?_
    rintro _ w3 ⟨_, ⟨rfl, rfl, q3⟩, h3⟩
    replace h3 : St w0 F0 [ownC 93 (.pair (.int .i64) (.int .i64)) r2 (.slice A2 r2.length c_2), _] _ _ := h3
    replace h3 : St w0 F0 [ownC 93 (.pair (.int .i64) (.int .i64)) r2 (.slice A2 r2.length c_2), boxC b1 90 [.slice A2 r2.length c_2]] _ _ := h3.retell (by simp only [q3])
    refine RJ.fin [(0, _), (4, _)] rfl ?_
    refine J.region ?_
    refine RJ.run ttok 2 rfl ?_
    refine RJ.fin [(0, _), (1, .int .i64 (w64 (Int.tdiv (w64 (x2 - 1)) 2)))] rfl ?_
    have h4 := ((h3.only [1, 0] rfl).rds [] rfl)
    exact ⟨k1, by omega, r2, A2, c_2, (w64 (Int.tdiv (w64 (x2 - 1)) 2)), rfl, h4, H⟩

/-! container/heap.Push -/
def heap_Push_if__node_ranks_if_node_kid.f (k : Nat) (a0 : List (Int × Int)) (a1 : Int × Int) : Option ((List (Int × Int))) := (node_ranks_Push_if_node_kid.f a0 (a1.1, a1.2)).bind fun r1 => ((node_ranks_Len.f r1).bind fun r2 => ((heap_up_if__node_ranks.f k r1 (w64 (r2 - 1))).bind fun r3 => (some r3)))
set_option maxRecDepth 20000 in
set_option maxHeartbeats 40000000 in
theorem heap_Push_if__node_ranks_if_node_kid.spec {k : Nat} {a0 : List (Int × Int)} {a1 : Int × Int} {b1 : Nat} {A1 : Option Addr} {c_1 : Nat} {r : (List (Int × Int))} (H : heap_Push_if__node_ranks_if_node_kid.f k a0 a1 = some r) :
    Spec Try.prog 73 [.iface 88 (.pointer (some ⟨b1, 0, none⟩)), .iface 93 (.agg #[.int .i64 a1.1, .int .i64 a1.2])] [boxC b1 90 [.slice A1 a0.length c_1], ownC 93 (.pair (.int .i64) (.int .i64)) a0 (.slice A1 a0.length c_1)] [] (fun v l => ∃ (A_0 : Option Addr) (c_0 : Nat), v = .tuple #[] ∧ l = [boxC b1 90 [.slice A_0 r.length c_0], ownC 93 (.pair (.int .i64) (.int .i64)) r (.slice A_0 r.length c_0)]) := by
  refine Spec.enter Try.func73 rfl (by kernel_rfl) (by kernel_rfl) fun w0 F0 h0 => ?_
  unfold heap_Push_if__node_ranks_if_node_kid.f at H
  refine J.seq (J.region ?_)
  refine RJ.run ttok 2 rfl ?_
  obtain ⟨r1, q1, H⟩ := bind_t H
  refine RJ.op rfl rfl (op_invoke [0, 0] (node_ranks_Push_if_node_kid.spec q1) rfl rfl (meth_ptr (e := 90) (by kernel_rfl) (by kernel_rfl) _ _) rfl h0 rfl gnil) ?_
  rintro _ w1 ⟨_, ⟨A2, c_2, rfl, rfl⟩, h1⟩
  replace h1 : St w0 F0 [boxC b1 90 [.slice A2 r1.length c_2], ownC 93 (.pair (.int .i64) (.int .i64)) r1 (.slice A2 r1.length c_2)] _ _ := h1
  refine RJ.fin [(0, .iface 88 (.pointer (some ⟨b1, 0, none⟩)))] rfl ?_
  refine J.region ?_
  refine RJ.run ttok 2 rfl ?_
  obtain ⟨r2, q2, H⟩ := bind_t H
  refine RJ.op rfl rfl (op_invoke [] (node_ranks_Len.spec q2) rfl rfl (meth_val (e := 90) (by kernel_rfl) (by kernel_rfl) (loadVar_box (t := 90) ttok 0 h1 rfl rfl rfl)) rfl h1 rfl (gcons (Gives.of 1 rfl own_rd) gnil)) ?_
  rintro _ w2 ⟨_, ⟨rfl, rfl⟩, h2⟩
  replace h2 : St w0 F0 [_, _] _ _ := h2
  refine RJ.run ttok 1 rfl ?_
  obtain ⟨r3, q3, H⟩ := bind_t H
  refine RJ.op rfl rfl (op_call [0, 0] (heap_up_if__node_ranks.spec q3) rfl rfl rfl h2 rfl gnil) ?_
  rintro _ w3 ⟨_, ⟨A3, c_3, rfl, rfl⟩, h3⟩
  replace h3 : St w0 F0 [boxC b1 90 [.slice A3 r3.length c_3], ownC 93 (.pair (.int .i64) (.int .i64)) r3 (.slice A3 r3.length c_3)] _ _ := h3
  refine RJ.fin [] rfl ?_
  obtain rfl := Option.some.inj H
  exact ⟨_, _, _, (results_slots rfl), ⟨_, _, rfl, rfl⟩, h3.only [0, 0] rfl⟩

/-! container/heap.down -/
def heap_down_if__node_ranks.l0 : Nat → (Int) → (Int) → (List (Int × Int)) → (Int) → Option (Bool × (List (Int × Int)))
  | 0, _, _, _, _ => none
  | k + 1, a1, a2, x1, x2 => if (decide (a2 ≤ (w64 ((w64 (2 * x2)) + 1)))) = true then (some ((decide (a1 < x2)), x1)) else (if (decide ((w64 ((w64 (2 * x2)) + 1)) < 0)) = true then (some ((decide (a1 < x2)), x1)) else (if (decide ((w64 ((w64 ((w64 (2 * x2)) + 1)) + 1)) < a2)) = true then ((node_ranks_Less.f x1 (w64 ((w64 ((w64 (2 * x2)) + 1)) + 1)) (w64 ((w64 (2 * x2)) + 1))).bind fun r1 => (if r1 = true then ((node_ranks_Less.f x1 (w64 ((w64 ((w64 (2 * x2)) + 1)) + 1)) x2).bind fun r2 => (if (!r2) = true then (some ((decide (a1 < x2)), x1)) else ((node_ranks_Swap.f x1 x2 (w64 ((w64 ((w64 (2 * x2)) + 1)) + 1))).bind fun r3 => (heap_down_if__node_ranks.l0 k a1 a2 r3 (w64 ((w64 ((w64 (2 * x2)) + 1)) + 1)))))) else ((node_ranks_Less.f x1 (w64 ((w64 (2 * x2)) + 1)) x2).bind fun r4 => (if (!r4) = true then (some ((decide (a1 < x2)), x1)) else ((node_ranks_Swap.f x1 x2 (w64 ((w64 (2 * x2)) + 1))).bind fun r5 => (heap_down_if__node_ranks.l0 k a1 a2 r5 (w64 ((w64 (2 * x2)) + 1)))))))) else ((node_ranks_Less.f x1 (w64 ((w64 (2 * x2)) + 1)) x2).bind fun r6 => (if (!r6) = true then (some ((decide (a1 < x2)), x1)) else ((node_ranks_Swap.f x1 x2 (w64 ((w64 (2 * x2)) + 1))).bind fun r7 => (heap_down_if__node_ranks.l0 k a1 a2 r7 (w64 ((w64 (2 * x2)) + 1))))))))
def heap_down_if__node_ranks.f (k : Nat) (a0 : List (Int × Int)) (a1 : Int) (a2 : Int) : Option (Bool × (List (Int × Int))) := heap_down_if__node_ranks.l0 k a1 a2 a0 a1
set_option maxRecDepth 20000 in
set_option maxHeartbeats 40000000 in
theorem heap_down_if__node_ranks.spec {k : Nat} {a0 : List (Int × Int)} {a1 : Int} {a2 : Int} {b1 : Nat} {A1 : Option Addr} {c_1 : Nat} {r : Bool × (List (Int × Int))} (H : heap_down_if__node_ranks.f k a0 a1 a2 = some r) :
    Spec Try.prog 100 [.iface 88 (.pointer (some ⟨b1, 0, none⟩)), .int .i64 a1, .int .i64 a2] [boxC b1 90 [.slice A1 a0.length c_1], ownC 93 (.pair (.int .i64) (.int .i64)) a0 (.slice A1 a0.length c_1)] [] (fun v l => ∃ (A_0 : Option Addr) (c_0 : Nat), v = .bool r.1 ∧ l = [boxC b1 90 [.slice A_0 r.2.length c_0], ownC 93 (.pair (.int .i64) (.int .i64)) r.2 (.slice A_0 r.2.length c_0)]) := by
  refine Spec.enter Try.func100 rfl (by kernel_rfl) (by kernel_rfl) fun w0 F0 h0 => ?_
  unfold heap_down_if__node_ranks.f at H
  refine J.seq (J.region ?_)
  refine RJ.run ttok 1 rfl ?_
  refine RJ.fin [(0, .iface 88 (.pointer (some ⟨b1, 0, none⟩))), (1, .int .i64 a1), (2, .int .i64 a2)] rfl ?_
  refine J.seq (J.region ?_)
  refine RJ.run ttok 2 rfl ?_
  refine RJ.fin [(0, _), (1, _), (2, _), (7, .int .i64 a1)] rfl ?_
  refine J.seq (J.block ?_)
  have h12 := ((h0.only [0, 0] rfl).rds [] rfl)
  refine J.loop (fun kk env w => ∃ (x1 : List (Int × Int)) (A2 : Option Addr) (c_2 : Nat) (x2 : Int), env = [(0, .iface 88 (.pointer (some ⟨b1, 0, none⟩))), (1, .int .i64 a1), (2, .int .i64 a2), (7, .int .i64 x2)] ∧ St w0 F0 [boxC b1 90 [.slice A2 x1.length c_2], ownC 93 (.pair (.int .i64) (.int .i64)) x1 (.slice A2 x1.length c_2)] [] w ∧ heap_down_if__node_ranks.l0 kk a1 a2 x1 x2 = some r) (k := k) ⟨a0, A1, c_1, a1, rfl, h12, H⟩ ?_
  rintro k1 env w1 ⟨x1, A2, c_2, x2, rfl, h1, H⟩
  cases k1 with
  | zero => exact nomatch (show none = some r from H)
  | succ k1 =>
    rw [heap_down_if__node_ranks.l0] at H
    refine J.block (J.seq (J.region ?_))
    refine RJ.run ttok 4 rfl ?_
    refine RJ.fin [(0, _), (1, _), (2, _), (7, _), (8, .int .i64 (w64 ((w64 (2 * x2)) + 1)))] rfl ?_
    refine J.seq (J.seq (J.region ?_))
    refine RJ.run ttok 4 rfl ?_
    rcases Bool.eq_false_or_eq_true (decide (a2 ≤ (w64 ((w64 (2 * x2)) + 1)))) with c1 | c1
    · replace H := ite_t c1 H
      refine RJ.know (t := 18) rfl (congrArg Value.bool c1) ?_
      refine RJ.run ttok 3 rfl ?_
      refine RJ.fin [(0, _), (1, _), (2, _), (7, _), (8, _), (21, .bool true)] rfl ?_
      refine J.condT rfl ?_
      refine J.exit ?_
      refine J.seq (J.region ?_)
      refine RJ.run ttok 4 rfl ?_
      refine RJ.fin [(6, .bool (decide (a1 < x2)))] rfl ?_
      refine J.ret ?_
      obtain rfl := Option.some.inj H
      exact ⟨_, _, _, (results_slots rfl), ⟨_, _, rfl, rfl⟩, h1.only [0, 0] rfl⟩
    replace H := ite_f c1 H
    refine RJ.know (t := 18) rfl (congrArg Value.bool c1) ?_
    refine RJ.run ttok 3 rfl ?_
    refine RJ.fin [(0, _), (1, _), (2, _), (7, _), (8, _), (21, .bool (decide ((w64 ((w64 (2 * x2)) + 1)) < 0)))] rfl ?_
    refine J.cond rfl (fun c2 => ?_) (fun c2 => ?_)
    · replace H := ite_t c2 H
      refine J.exit ?_
      refine J.seq (J.region ?_)
      refine RJ.run ttok 4 rfl ?_
      refine RJ.fin [(6, .bool (decide (a1 < x2)))] rfl ?_
      refine J.ret ?_
      obtain rfl := Option.some.inj H
      exact ⟨_, _, _, (results_slots rfl), ⟨_, _, rfl, rfl⟩, h1.only [0, 0] rfl⟩
    replace H := ite_f c2 H
    refine J.skip ?_
    refine J.seq (J.region ?_)
    refine RJ.run ttok 2 rfl ?_
    refine RJ.fin [(0, _), (1, _), (2, _), (7, _), (8, _), (9, .int .i64 (w64 ((w64 (2 * x2)) + 1)))] rfl ?_
    refine J.seq (J.seq (J.region ?_))
    refine RJ.run ttok 3 rfl ?_
    refine RJ.fin [(0, _), (1, _), (2, _), (7, _), (8, _), (9, _), (10, .int .i64 (w64 ((w64 ((w64 (2 * x2)) + 1)) + 1)))] rfl ?_
    refine J.seq (J.region ?_)
    refine RJ.run ttok 4 rfl ?_
    rcases Bool.eq_false_or_eq_true (decide ((w64 ((w64 ((w64 (2 * x2)) + 1)) + 1)) < a2)) with c3 | c3
    · replace H := ite_t c3 H
      refine RJ.know (t := 28) rfl (congrArg Value.bool c3) ?_
      refine RJ.run ttok 3 rfl ?_
      obtain ⟨r1, q1, H⟩ := bind_t H
      refine RJ.op rfl rfl (op_invoke [] (node_ranks_Less.spec q1) rfl rfl (meth_val (e := 90) (by kernel_rfl) (by kernel_rfl) (loadVar_box (t := 90) ttok 0 h1 rfl rfl rfl)) rfl h1 rfl (gcons (Gives.of 1 rfl own_rd) gnil)) ?_
      rintro _ w2 ⟨_, ⟨rfl, rfl⟩, h2⟩
      replace h2 : St w0 F0 [_, _] _ _ := h2
      refine RJ.run ttok 1 rfl ?_
      refine RJ.fin [(0, _), (1, _), (2, _), (7, _), (9, _), (10, _), (33, .bool r1)] rfl ?_
      refine J.cond rfl (fun c4 => ?_) (fun c4 => ?_)
      · replace H := ite_t c4 H
        refine J.region ?_
        refine RJ.run ttok 2 rfl ?_
        refine RJ.fin [(0, _), (1, _), (2, _), (7, _), (9, .int .i64 (w64 ((w64 ((w64 (2 * x2)) + 1)) + 1)))] rfl ?_
        refine J.seq (J.seq (J.region ?_))
        refine RJ.run ttok 3 rfl ?_
        obtain ⟨r2, q2, H⟩ := bind_t H
        refine RJ.op rfl rfl (op_invoke [] (node_ranks_Less.spec q2) rfl rfl (meth_val (e := 90) (by kernel_rfl) (by kernel_rfl) (loadVar_box (t := 90) ttok 0 h2 rfl rfl rfl)) rfl h2 rfl (gcons (Gives.of 1 rfl own_rd) gnil)) ?_
        rintro _ w3 ⟨_, ⟨rfl, rfl⟩, h3⟩
        replace h3 : St w0 F0 [_, _] _ _ := h3
        refine RJ.run ttok 1 rfl ?_
        refine RJ.fin [(0, _), (1, _), (2, _), (7, _), (9, _), (39, .bool (!r2))] rfl ?_
        refine J.cond rfl (fun c5 => ?_) (fun c5 => ?_)
        · replace H := ite_t c5 H
          refine J.exit ?_
          refine J.seq (J.region ?_)
          refine RJ.run ttok 4 rfl ?_
          refine RJ.fin [(6, .bool (decide (a1 < x2)))] rfl ?_
          refine J.ret ?_
          obtain rfl := Option.some.inj H
          exact ⟨_, _, _, (results_slots rfl), ⟨_, _, rfl, rfl⟩, h3.only [0, 0] rfl⟩
        replace H := ite_f c5 H
        refine J.skip ?_
        refine J.seq (J.region ?_)
        refine RJ.run ttok 3 rfl ?_
        obtain ⟨r3, q3, H⟩ := bind_t H
        refine RJ.op rfl rfl (op_invoke [1] (node_ranks_Swap.spec q3) rfl rfl (meth_val (e := 90) (by kernel_rfl) (by kernel_rfl) (loadVar_box (t := 90) ttok 0 h3 rfl rfl rfl)) rfl h3 rfl gnil) ?_
        rintro _ w4 ⟨_, ⟨rfl, rfl, q4⟩, h4⟩
        replace h4 : St w0 F0 [ownC 93 (.pair (.int .i64) (.int .i64)) r3 (.slice A2 r3.length c_2), _] _ _ := h4
        replace h4 : St w0 F0 [ownC 93 (.pair (.int .i64) (.int .i64)) r3 (.slice A2 r3.length c_2), boxC b1 90 [.slice A2 r3.length c_2]] _ _ := h4.retell (by simp only [q4])
        refine RJ.fin [(0, _), (1, _), (2, _), (9, _)] rfl ?_
        refine J.region ?_
        refine RJ.run ttok 2 rfl ?_
        refine RJ.fin [(0, _), (1, _), (2, _), (7, .int .i64 (w64 ((w64 ((w64 (2 * x2)) + 1)) + 1)))] rfl ?_
        have h5 := ((h4.only [1, 0] rfl).rds [] rfl)
        exact ⟨k1, by omega, r3, A2, c_2, (w64 ((w64 ((w64 (2 * x2)) + 1)) + 1)), rfl, h5, H⟩
      replace H := ite_f c4 H
      refine J.skip ?_
      refine J.seq (J.seq (J.region ?_))
      refine RJ.run ttok 3 rfl ?_
      obtain ⟨r4, q5, H⟩ := bind_t H
      refine RJ.op rfl rfl (op_invoke [] (node_ranks_Less.spec q5) rfl rfl (meth_val (e := 90) (by kernel_rfl) (by kernel_rfl) (loadVar_box (t := 90) ttok 0 h2 rfl rfl rfl)) rfl h2 rfl (gcons (Gives.of 1 rfl own_rd) gnil)) ?_
      rintro _ w5 ⟨_, ⟨rfl, rfl⟩, h6⟩
      replace h6 : St w0 F0 [_, _] _ _ := h6
      refine RJ.run ttok 1 rfl ?_
      refine RJ.fin [(0, _), (1, _), (2, _), (7, _), (9, _), (39, .bool (!r4))] rfl ?_
      refine J.cond rfl (fun c6 => ?_) (fun c6 => ?_)
      · replace H := ite_t c6 H
        refine J.exit ?_
        refine J.seq (J.region ?_)
        refine RJ.run ttok 4 rfl ?_
        refine RJ.fin [(6, .bool (decide (a1 < x2)))] rfl ?_
        refine J.ret ?_
        obtain rfl := Option.some.inj H
        exact ⟨_, _, _, (results_slots rfl), ⟨_, _, rfl, rfl⟩, h6.only [0, 0] rfl⟩
      replace H := ite_f c6 H
      refine J.skip ?_
      refine J.seq (J.region ?_)
      refine RJ.run ttok 3 rfl ?_
      obtain ⟨r5, q6, H⟩ := bind_t H
      refine RJ.op rfl rfl (op_invoke [1] (node_ranks_Swap.spec q6) rfl rfl (meth_val (e := 90) (by kernel_rfl) (by kernel_rfl) (loadVar_box (t := 90) ttok 0 h6 rfl rfl rfl)) rfl h6 rfl gnil) ?_
      rintro _ w6 ⟨_, ⟨rfl, rfl, q7⟩, h7⟩
      replace h7 : St w0 F0 [ownC 93 (.pair (.int .i64) (.int .i64)) r5 (.slice A2 r5.length c_2), _] _ _ := h7
      replace h7 : St w0 F0 [ownC 93 (.pair (.int .i64) (.int .i64)) r5 (.slice A2 r5.length c_2), boxC b1 90 [.slice A2 r5.length c_2]] _ _ := h7.retell (by simp only [q7])
      refine RJ.fin [(0, _), (1, _), (2, _), (9, _)] rfl ?_
      refine J.region ?_
      refine RJ.run ttok 2 rfl ?_
      refine RJ.fin [(0, _), (1, _), (2, _), (7, .int .i64 (w64 ((w64 (2 * x2)) + 1)))] rfl ?_
      have h8 := ((h7.only [1, 0] rfl).rds [] rfl)
      exact ⟨k1, by omega, r5, A2, c_2, (w64 ((w64 (2 * x2)) + 1)), rfl, h8, H⟩
    replace H := ite_f c3 H
    refine RJ.know (t := 28) rfl (congrArg Value.bool c3) ?_
    refine RJ.run ttok 5 rfl ?_
    refine RJ.fin [(0, _), (1, _), (2, _), (7, _), (9, _), (10, _), (33, .bool false)] rfl ?_
    refine J.condF rfl ?_
    refine J.skip ?_
    refine J.seq (J.seq (J.region ?_))
    refine RJ.run ttok 3 rfl ?_
    obtain ⟨r6, q8, H⟩ := bind_t H
    refine RJ.op rfl rfl (op_invoke [] (node_ranks_Less.spec q8) rfl rfl (meth_val (e := 90) (by kernel_rfl) (by kernel_rfl) (loadVar_box (t := 90) ttok 0 h1 rfl rfl rfl)) rfl h1 rfl (gcons (Gives.of 1 rfl own_rd) gnil)) ?_
    rintro _ w7 ⟨_, ⟨rfl, rfl⟩, h9⟩
    replace h9 : St w0 F0 [_, _] _ _ := h9
    refine RJ.run ttok 1 rfl ?_
    refine RJ.fin [(0, _), (1, _), (2, _), (7, _), (9, _), (39, .bool (!r6))] rfl ?_
    refine J.cond rfl (fun c7 => ?_) (fun c7 => ?_)
    · replace H := ite_t c7 H
      refine J.exit ?_
      refine J.seq (J.region ?_)
      refine RJ.run ttok 4 rfl ?_
      refine RJ.fin [(6, .bool (decide (a1 < x2)))] rfl ?_
      refine J.ret ?_
      obtain rfl := Option.some.inj H
      exact ⟨_, _, _, (results_slots rfl), ⟨_, _, rfl, rfl⟩, h9.only [0, 0] rfl⟩
    replace H := ite_f c7 H
    refine J.skip ?_
    refine J.seq (J.region ?_)
    refine RJ.run ttok 3 rfl ?_
    obtain ⟨r7, q9, H⟩ := bind_t H
    refine RJ.op rfl rfl (op_invoke [1] (node_ranks_Swap.spec q9) rfl rfl (meth_val (e := 90) (by kernel_rfl) (by kernel_rfl) (loadVar_box (t := 90) ttok 0 h9 rfl rfl rfl)) rfl h9 rfl gnil) ?_
    rintro _ w8 ⟨_, ⟨rfl, rfl, q10⟩, h10⟩
    replace h10 : St w0 F0 [ownC 93 (.pair (.int .i64) (.int .i64)) r7 (.slice A2 r7.length c_2), _] _ _ := h10
    replace h10 : St w0 F0 [ownC 93 (.pair (.int .i64) (.int .i64)) r7 (.slice A2 r7.length c_2), boxC b1 90 [.slice A2 r7.length c_2]] _ _ := h10.retell (by simp only [q10])
    refine RJ.fin [(0, _), (1, _), (2, _), (9, _)] rfl ?_
    refine J.region ?_
    refine RJ.run ttok 2 rfl ?_
    refine RJ.fin [(0, _), (1, _), (2, _), (7, .int .i64 (w64 ((w64 (2 * x2)) + 1)))] rfl ?_
    have h11 := ((h10.only [1, 0] rfl).rds [] rfl)
    exact ⟨k1, by omega, r7, A2, c_2, (w64 ((w64 (2 * x2)) + 1)), rfl, h11, H⟩

/-! (*sluicegate/node.ranks).Pop -/
def node_ranks_Pop.f (a0 : List (Int × Int)) : Option ((Int × Int) × (List (Int × Int))) := if 0 ≤ (w64 ((a0.length : Int) - 1)) ∧ (w64 ((a0.length : Int) - 1)) < (a0.length : Int) then (if (0 : Int) ≤ (w64 ((a0.length : Int) - 1)) ∧ (w64 ((a0.length : Int) - 1)) ≤ (a0.length : Int) then (some (((gt a0 (w64 ((a0.length : Int) - 1))).1, (gt a0 (w64 ((a0.length : Int) - 1))).2), (a0.take ((w64 ((a0.length : Int) - 1))).toNat))) else none) else none
set_option maxRecDepth 20000 in
set_option maxHeartbeats 40000000 in
theorem node_ranks_Pop.spec {a0 : List (Int × Int)} {b1 : Nat} {A1 : Option Addr} {c_1 : Nat} {r : (Int × Int) × (List (Int × Int))} (H : node_ranks_Pop.f a0 = some r) :
    Spec Try.prog 161 [.pointer (some ⟨b1, 0, none⟩)] [boxC b1 90 [.slice A1 a0.length c_1], ownC 93 (.pair (.int .i64) (.int .i64)) a0 (.slice A1 a0.length c_1)] [] (fun v l => ∃ (A_0 : Option Addr) (c_0 : Nat), v = .iface 93 (.agg #[.int .i64 r.1.1, .int .i64 r.1.2]) ∧ l = [boxC b1 90 [.slice A_0 r.2.length c_0], ownC 93 (.pair (.int .i64) (.int .i64)) r.2 (.slice A_0 r.2.length c_0)]) := by
  refine Spec.enter Try.func161 rfl (by kernel_rfl) (by kernel_rfl) fun w0 F0 h0 => ?_
  unfold node_ranks_Pop.f at H
  refine J.seq (J.region ?_)
  refine RJ.run ttok 1 rfl ?_
  refine RJ.fin [(0, .pointer (some ⟨b1, 0, none⟩))] rfl ?_
  refine J.seq (J.region ?_)
  refine RJ.run ttok 2 rfl ?_
  refine RJ.q rfl rfl (q_load_box ttok 0 h0.wht rfl rfl rfl rfl rfl) ?_
  refine RJ.run ttok 3 rfl ?_
  refine RJ.fin [(0, _), (3, .int .i64 (w64 ((a0.length : Int) - 1)))] rfl ?_
  refine J.seq (J.region ?_)
  refine RJ.run ttok 2 rfl ?_
  refine RJ.q rfl rfl (q_load_box ttok 0 h0.wht rfl rfl rfl rfl rfl) ?_
  refine RJ.run ttok 1 rfl ?_
  obtain ⟨⟨p1, p2⟩, H⟩ := guard_t H
  have e1 := elem_A h0.wh (Gives.of 1 rfl own_rd) p1 p2
  refine RJ.q rfl rfl (q_index ttok rfl rfl rfl rfl rfl e1 p1 p2) ?_
  refine RJ.q rfl rfl (q_load_elem (f := 0) ttok rfl h0.wht (Gives.of 1 rfl own_rd) p1 p2 rfl rfl rfl rfl rfl) ?_
  refine RJ.op rfl rfl (op_alloc ttok rfl rfl h0) ?_
  rintro _ w1 ⟨b2, rfl, h1⟩
  replace h1 : St w0 F0 [boxC b2 93 [.int .i64 0, .int .i64 0], boxC b1 90 [.slice A1 a0.length c_1], ownC 93 (.pair (.int .i64) (.int .i64)) a0 (.slice A1 a0.length c_1)] _ _ := h1
  refine RJ.op rfl rfl (op_store ttok 0 rfl h1 rfl rfl rfl rfl rfl rfl rfl) ?_
  intro _ w2 h2
  replace h2 : St w0 F0 [boxC b2 93 [.int .i64 ((gt a0 (w64 ((a0.length : Int) - 1))).1), .int .i64 ((gt a0 (w64 ((a0.length : Int) - 1))).2)], _, _] _ _ := h2
  refine RJ.fin [(0, _), (3, _), (4, .pointer (some ⟨b2, 0, none⟩))] rfl ?_
  refine J.seq (J.region ?_)
  refine RJ.run ttok 3 rfl ?_
  refine RJ.q rfl rfl (q_load_box ttok 1 h2.wht rfl rfl rfl rfl rfl) ?_
  refine RJ.run ttok 1 rfl ?_
  obtain ⟨⟨p3, p4⟩, H⟩ := guard_t H
  have e2 := h2.cap (Gives.of 2 rfl own_rd)
  refine RJ.q rfl rfl (q_cut0 (h := (w64 ((a0.length : Int) - 1))) (sub := (a0.take ((w64 ((a0.length : Int) - 1))).toNat)) ttok rfl rfl rfl rfl e2 ⟨_, rfl⟩ p3 p4 rfl) ?_
  refine RJ.run ttok 1 rfl ?_
  refine RJ.op rfl rfl (op_store ttok 1 rfl h2 rfl rfl rfl rfl rfl rfl rfl) ?_
  intro _ w3 h3
  replace h3 : St w0 F0 [boxC b1 90 [.slice A1 (a0.take ((w64 ((a0.length : Int) - 1))).toNat).length c_1], _, _] _ _ := h3
  refine RJ.fin [(4, _)] rfl ?_
  refine J.seq (J.region ?_)
  refine RJ.q rfl rfl (q_load_box ttok 1 h3.wht rfl rfl rfl rfl rfl) ?_
  refine RJ.run ttok 2 rfl ?_
  refine RJ.fin [(2, .iface 93 (.agg #[.int .i64 ((gt a0 (w64 ((a0.length : Int) - 1))).1), .int .i64 ((gt a0 (w64 ((a0.length : Int) - 1))).2)]))] rfl ?_
  refine J.ret ?_
  have h4 := h3.front (ty := (.pair (.int .i64) (.int .i64))) rfl 2 (w64 ((a0.length : Int) - 1)).toNat rfl (by omega)
  obtain rfl := Option.some.inj H
  exact ⟨_, _, _, (results_slots rfl), ⟨_, _, rfl, rfl⟩, h4.only [1, 0] rfl⟩

/-! container/heap.Pop -/
def heap_Pop_if__node_ranks.f (k : Nat) (a0 : List (Int × Int)) : Option ((Int × Int) × (List (Int × Int))) := (node_ranks_Len.f a0).bind fun r1 => ((node_ranks_Swap.f a0 0 (w64 (r1 - 1))).bind fun r2 => ((heap_down_if__node_ranks.f k r2 0 (w64 (r1 - 1))).bind fun r3 => ((node_ranks_Pop.f r3.2).bind fun r4 => (some ((r4.1.1, r4.1.2), r4.2)))))
set_option maxRecDepth 20000 in
set_option maxHeartbeats 40000000 in
theorem heap_Pop_if__node_ranks.spec {k : Nat} {a0 : List (Int × Int)} {b1 : Nat} {A1 : Option Addr} {c_1 : Nat} {r : (Int × Int) × (List (Int × Int))} (H : heap_Pop_if__node_ranks.f k a0 = some r) :
    Spec Try.prog 75 [.iface 88 (.pointer (some ⟨b1, 0, none⟩))] [boxC b1 90 [.slice A1 a0.length c_1], ownC 93 (.pair (.int .i64) (.int .i64)) a0 (.slice A1 a0.length c_1)] [] (fun v l => ∃ (A_0 : Option Addr) (c_0 : Nat), v = .iface 93 (.agg #[.int .i64 r.1.1, .int .i64 r.1.2]) ∧ l = [boxC b1 90 [.slice A_0 r.2.length c_0], ownC 93 (.pair (.int .i64) (.int .i64)) r.2 (.slice A_0 r.2.length c_0)]) := by
  refine Spec.enter Try.func75 rfl (by kernel_rfl) (by kernel_rfl) fun w0 F0 h0 => ?_
  unfold heap_Pop_if__node_ranks.f at H
  refine J.seq (J.region ?_)
  refine RJ.run ttok 1 rfl ?_
  refine RJ.fin [(0, .iface 88 (.pointer (some ⟨b1, 0, none⟩)))] rfl ?_
  refine J.seq (J.region ?_)
  refine RJ.run ttok 1 rfl ?_
  obtain ⟨r1, q1, H⟩ := bind_t H
  refine RJ.op rfl rfl (op_invoke [] (node_ranks_Len.spec q1) rfl rfl (meth_val (e := 90) (by kernel_rfl) (by kernel_rfl) (loadVar_box (t := 90) ttok 0 h0 rfl rfl rfl)) rfl h0 rfl (gcons (Gives.of 1 rfl own_rd) gnil)) ?_
  rintro _ w1 ⟨_, ⟨rfl, rfl⟩, h1⟩
  replace h1 : St w0 F0 [boxC b1 90 [.slice A1 a0.length c_1], ownC 93 (.pair (.int .i64) (.int .i64)) a0 (.slice A1 a0.length c_1)] _ _ := h1
  refine RJ.run ttok 2 rfl ?_
  refine RJ.fin [(0, _), (3, .int .i64 (w64 (r1 - 1)))] rfl ?_
  refine J.seq (J.region ?_)
  refine RJ.run ttok 2 rfl ?_
  obtain ⟨r2, q2, H⟩ := bind_t H
  refine RJ.op rfl rfl (op_invoke [1] (node_ranks_Swap.spec q2) rfl rfl (meth_val (e := 90) (by kernel_rfl) (by kernel_rfl) (loadVar_box (t := 90) ttok 0 h1 rfl rfl rfl)) rfl h1 rfl gnil) ?_
  rintro _ w2 ⟨_, ⟨rfl, rfl, q3⟩, h2⟩
  replace h2 : St w0 F0 [ownC 93 (.pair (.int .i64) (.int .i64)) r2 (.slice A1 r2.length c_1), _] _ _ := h2
  replace h2 : St w0 F0 [ownC 93 (.pair (.int .i64) (.int .i64)) r2 (.slice A1 r2.length c_1), boxC b1 90 [.slice A1 r2.length c_1]] _ _ := h2.retell (by simp only [q3])
  refine RJ.fin [(0, _), (3, _)] rfl ?_
  refine J.seq (J.region ?_)
  refine RJ.run ttok 2 rfl ?_
  obtain ⟨r3, q4, H⟩ := bind_t H
  refine RJ.op rfl rfl (op_call [1, 0] (heap_down_if__node_ranks.spec q4) rfl rfl rfl h2 rfl gnil) ?_
  rintro _ w3 ⟨_, ⟨A2, c_2, rfl, rfl⟩, h3⟩
  replace h3 : St w0 F0 [boxC b1 90 [.slice A2 r3.2.length c_2], ownC 93 (.pair (.int .i64) (.int .i64)) r3.2 (.slice A2 r3.2.length c_2)] _ _ := h3
  refine RJ.fin [(0, _)] rfl ?_
  refine J.seq (J.region ?_)
  refine RJ.run ttok 1 rfl ?_
  obtain ⟨r4, q5, H⟩ := bind_t H
  refine RJ.op rfl rfl (op_invoke [0, 0] (node_ranks_Pop.spec q5) rfl rfl (meth_ptr (e := 90) (by kernel_rfl) (by kernel_rfl) _ _) rfl h3 rfl gnil) ?_
  rintro _ w4 ⟨_, ⟨A3, c_3, rfl, rfl⟩, h4⟩
  replace h4 : St w0 F0 [boxC b1 90 [.slice A3 r4.2.length c_3], ownC 93 (.pair (.int .i64) (.int .i64)) r4.2 (.slice A3 r4.2.length c_3)] _ _ := h4
  refine RJ.run ttok 1 rfl ?_
  refine RJ.fin [(2, .iface 93 (.agg #[.int .i64 r4.1.1, .int .i64 r4.1.2]))] rfl ?_
  refine J.ret ?_
  obtain rfl := Option.some.inj H
  exact ⟨_, _, _, (results_slots rfl), ⟨_, _, rfl, rfl⟩, h4.only [0, 0] rfl⟩

/-! sluicegate/node.Rank -/
def node_Rank.l1 : Nat → (List (Int × Int)) → (List (Int)) → Option (List (Int))
  | 0, _, _ => none
  | k + 1, x3, x4 => (node_ranks_Len.f x3).bind fun r3 => (if (decide (0 < r3)) = true then ((heap_Pop_if__node_ranks.f k x3).bind fun r4 => (if (x4.length + ([r4.1.1] : List (Int)).length) * 8 ≤ 140737488355328 then (node_Rank.l1 k r4.2 (x4 ++ ([r4.1.1] : List (Int)))) else none)) else (some x4))
def node_Rank.l0 : Nat → (List (Int)) → (List (Int × Int)) → (Int) → Option (List (Int))
  | 0, _, _, _ => none
  | k + 1, r1, x1, x2 => if (decide (x2 < (r1.length : Int))) = true then (if 0 ≤ x2 ∧ x2 < (r1.length : Int) then ((heap_Push_if__node_ranks_if_node_kid.f k x1 (x2, (gt r1 x2))).bind fun r2 => (node_Rank.l0 k r1 r2 (w64 (x2 + 1)))) else none) else (node_Rank.l1 k x1 ([] : List (Int)))
def node_Rank.f (k : Nat) (a0 : Int × List (Int) × List (List UInt8) × (List (List UInt8 × Bool × List UInt8)) × (List (List UInt8 × List UInt8))) : Option (List (Int)) := (node_Loads.f k (a0.1, a0.2.1, a0.2.2.1, a0.2.2.2.1, a0.2.2.2.2)).bind fun r1 => (node_Rank.l0 k r1 ([] : List (Int × Int)) 0)
set_option maxRecDepth 20000 in
set_option maxHeartbeats 40000000 in
theorem node_Rank.spec {k : Nat} {a0 : Int × List (Int) × List (List UInt8) × (List (List UInt8 × Bool × List UInt8)) × (List (List UInt8 × List UInt8))} {A1 : Option Addr} {c_1 : Nat} {A2 : Option Addr} {c_2 : Nat} {A3 : Option Addr} {c_3 : Nat} {A4 : Option Addr} {c_4 : Nat} {r : List (Int)} (H : node_Rank.f k a0 = some r) :
    Spec Try.prog 34 [.agg #[.int .i64 a0.1, .slice A1 a0.2.1.length c_1, .slice A2 a0.2.2.1.length c_2, .slice A3 a0.2.2.2.1.length c_3, .slice A4 a0.2.2.2.2.length c_4]] [] [rdC 46 (.int .u32) a0.2.1 (.slice A1 a0.2.1.length c_1), rdC 9 .str a0.2.2.1 (.slice A2 a0.2.2.1.length c_2), rdC 48 (.pair .str (.pair .bool .str)) a0.2.2.2.1 (.slice A3 a0.2.2.2.1.length c_3), rdC 50 (.pair .str .str) a0.2.2.2.2 (.slice A4 a0.2.2.2.2.length c_4)] (fun v l => ∃ (A_0 : Option Addr) (c_0 : Nat), v = .slice A_0 r.length c_0 ∧ l = [ownC 3 (.int .i64) r (.slice A_0 r.length c_0)]) := by
  refine Spec.enter Try.func34 rfl (by kernel_rfl) (by kernel_rfl) fun w0 F0 h0 => ?_
  unfold node_Rank.f at H
  refine J.seq (J.region ?_)
  refine RJ.op rfl rfl (op_box rfl rfl h0) ?_
  rintro _ w1 ⟨b1, rfl, h1⟩
  replace h1 : St w0 F0 [boxC b1 31 [.int .i64 a0.1, .slice A1 a0.2.1.length c_1, .slice A2 a0.2.2.1.length c_2, .slice A3 a0.2.2.2.1.length c_3, .slice A4 a0.2.2.2.2.length c_4]] _ _ := h1
  refine RJ.run ttok 1 rfl ?_
  refine RJ.fin [(1, .pointer (some ⟨b1, 0, none⟩))] rfl ?_
  refine J.seq (J.region ?_)
  refine RJ.op rfl rfl (op_lit ttok (.pair (.int .i64) (.int .i64)) rfl ([] : List (Int × Int)) rfl h1 rfl rfl (by decide) rfl rfl rfl rfl rfl rfl rfl) ?_
  rintro _ w2 ⟨b2, rfl, h2⟩
  replace h2 : St w0 F0 [ownC 93 (.pair (.int .i64) (.int .i64)) ([] : List (Int × Int)) (.slice (some ⟨b2, 0, none⟩) ([] : List (Int × Int)).length 0), _] _ _ := h2
  refine RJ.op rfl rfl (op_box rfl rfl h2) ?_
  rintro _ w3 ⟨b3, rfl, h3⟩
  replace h3 : St w0 F0 [boxC b3 90 [.slice (some ⟨b2, 0, none⟩) ([] : List (Int × Int)).length 0], _, _] _ _ := h3
  refine RJ.run ttok 1 rfl ?_
  refine RJ.fin [(1, _), (3, .pointer (some ⟨b3, 0, none⟩))] rfl ?_
  refine J.seq (J.seq (J.region ?_))
  refine RJ.q rfl rfl (q_load_box ttok 2 h3.wht rfl rfl rfl rfl rfl) ?_
  obtain ⟨r1, q1, H⟩ := bind_t H
  refine RJ.op rfl rfl (op_call [] (node_Loads.spec q1) rfl rfl rfl h3 rfl (gcons (Gives.self 3 rfl) (gcons (Gives.self 4 rfl) (gcons (Gives.self 5 rfl) (gcons (Gives.self 6 rfl) gnil))))) ?_
  rintro _ w4 ⟨_, ⟨A5, c_5, rfl, rfl⟩, h4⟩
  replace h4 : St w0 F0 [ownC 3 (.int .i64) r1 (.slice A5 r1.length c_5), _, _, _] _ _ := h4
  refine RJ.run ttok 2 rfl ?_
  refine RJ.fin [(3, _), (12, .slice A5 r1.length c_5), (13, .int .i64 (r1.length : Int)), (14, .int .i64 0)] rfl ?_
  refine J.block ?_
  have h20 := ((h4.only [1, 1, 0] rfl).rds [] rfl)
  refine J.loop (fun kk env w => ∃ (x1 : List (Int × Int)) (A6 : Option Addr) (c_6 : Nat) (x2 : Int), env = [(3, .pointer (some ⟨b3, 0, none⟩)), (12, .slice A5 r1.length c_5), (13, .int .i64 (r1.length : Int)), (14, .int .i64 x2)] ∧ St w0 F0 [boxC b3 90 [.slice A6 x1.length c_6], ownC 93 (.pair (.int .i64) (.int .i64)) x1 (.slice A6 x1.length c_6), ownC 3 (.int .i64) r1 (.slice A5 r1.length c_5)] [] w ∧ node_Rank.l0 kk r1 x1 x2 = some r) (k := k) ⟨([] : List (Int × Int)), (some ⟨b2, 0, none⟩), 0, 0, rfl, h20, H⟩ ?_
  rintro k1 env w5 ⟨x1, A6, c_6, x2, rfl, h5, H⟩
  cases k1 with
  | zero => exact nomatch (show none = some r from H)
  | succ k1 =>
    rw [node_Rank.l0] at H
    refine J.seq (J.region ?_)
    refine RJ.run ttok 1 rfl ?_
    refine RJ.fin [(3, _), (12, _), (13, _), (14, _), (15, .bool (decide (x2 < (r1.length : Int))))] rfl ?_
    refine J.seq ?_
    refine J.cond rfl (fun c1 => ?_) (fun c1 => ?_)
    · replace H := ite_t c1 H
      refine J.skip ?_
      refine J.seq (J.block (J.seq (J.region ?_)))
      refine RJ.run ttok 1 rfl ?_
      obtain ⟨⟨p1, p2⟩, H⟩ := guard_t H
      have e1 := elem_A h5.wh (Gives.of 2 rfl own_rd) p1 p2
      refine RJ.q rfl rfl (q_index ttok rfl rfl rfl rfl rfl e1 p1 p2) ?_
      refine RJ.q rfl rfl (q_load_elem (f := 0) ttok rfl h5.wht (Gives.of 2 rfl own_rd) p1 p2 rfl rfl rfl rfl rfl) ?_
      refine RJ.run ttok 2 rfl ?_
      refine RJ.fin [(3, _), (4, .int .i64 x2), (5, .int .i64 (gt r1 x2)), (12, _), (13, _), (14, _)] rfl ?_
      refine J.region ?_
      refine RJ.run ttok 6 rfl ?_
      obtain ⟨r2, q2, H⟩ := bind_t H
      refine RJ.op rfl rfl (op_call [0, 0] (heap_Push_if__node_ranks_if_node_kid.spec q2) rfl rfl rfl h5 rfl gnil) ?_
      rintro _ w6 ⟨_, ⟨A7, c_7, rfl, rfl⟩, h6⟩
      replace h6 : St w0 F0 [boxC b3 90 [.slice A7 r2.length c_7], ownC 93 (.pair (.int .i64) (.int .i64)) r2 (.slice A7 r2.length c_7), _] _ _ := h6
      refine RJ.fin [(3, _), (12, _), (13, _), (14, _)] rfl ?_
      refine J.region ?_
      refine RJ.run ttok 2 rfl ?_
      refine RJ.fin [(3, _), (12, _), (13, _), (14, .int .i64 (w64 (x2 + 1)))] rfl ?_
      have h7 := ((h6.only [0, 0, 0] rfl).rds [] rfl)
      exact ⟨k1, by omega, r2, A7, c_7, (w64 (x2 + 1)), rfl, h7, H⟩
    replace H := ite_f c1 H
    refine J.exit ?_
    refine J.seq (J.region ?_)
    refine RJ.run ttok 1 rfl ?_
    refine RJ.fin [(3, _), (6, .slice none ([] : List (Int)).length 0)] rfl ?_
    refine J.seq (J.block ?_)
    have h18 := h5.addNil 3 (.int .i64)
    have h19 := ((h18.only [1, 1, 0] rfl).rds [] rfl)
    refine J.loop (fun kk env w => ∃ (x3 : List (Int × Int)) (A8 : Option Addr) (c_8 : Nat) (x4 : List (Int)) (A9 : Option Addr) (c_9 : Nat), env = [(3, .pointer (some ⟨b3, 0, none⟩)), (6, .slice A9 x4.length c_9)] ∧ St w0 F0 [boxC b3 90 [.slice A8 x3.length c_8], ownC 93 (.pair (.int .i64) (.int .i64)) x3 (.slice A8 x3.length c_8), ownC 3 (.int .i64) x4 (.slice A9 x4.length c_9)] [] w ∧ node_Rank.l1 kk x3 x4 = some r) (k := k1) ⟨x1, A6, c_6, ([] : List (Int)), none, 0, rfl, h19, H⟩ ?_
    rintro k2 env w7 ⟨x3, A8, c_8, x4, A9, c_9, rfl, h8, H⟩
    cases k2 with
    | zero => exact nomatch (show none = some r from H)
    | succ k2 =>
      rw [node_Rank.l1] at H
      refine J.seq (J.seq (J.region ?_))
      refine RJ.run ttok 2 rfl ?_
      refine RJ.q rfl rfl (q_load_box ttok 0 h8.wht rfl rfl rfl rfl rfl) ?_
      obtain ⟨r3, q3, H⟩ := bind_t H
      refine RJ.op rfl rfl (op_call [] (node_ranks_Len.spec q3) rfl rfl rfl h8 rfl (gcons (Gives.of 1 rfl own_rd) gnil)) ?_
      rintro _ w8 ⟨_, ⟨rfl, rfl⟩, h9⟩
      replace h9 : St w0 F0 [_, _, _] _ _ := h9
      refine RJ.run ttok 1 rfl ?_
      refine RJ.fin [(3, _), (6, _), (31, .bool (decide (0 < r3)))] rfl ?_
      refine J.cond rfl (fun c2 => ?_) (fun c2 => ?_)
      · replace H := ite_t c2 H
        refine J.skip ?_
        refine J.block (J.seq (J.region ?_))
        refine RJ.run ttok 2 rfl ?_
        obtain ⟨r4, q4, H⟩ := bind_t H
        refine RJ.op rfl rfl (op_call [0, 0] (heap_Pop_if__node_ranks.spec q4) rfl rfl rfl h9 rfl gnil) ?_
        rintro _ w9 ⟨_, ⟨A10, c_10, rfl, rfl⟩, h10⟩
        replace h10 : St w0 F0 [boxC b3 90 [.slice A10 r4.2.length c_10], ownC 93 (.pair (.int .i64) (.int .i64)) r4.2 (.slice A10 r4.2.length c_10), _] _ _ := h10
        refine RJ.q rfl rfl (q_assert ttok rfl rfl rfl rfl) ?_
        refine RJ.run ttok 3 rfl ?_
        refine RJ.op rfl rfl (op_alloc ttok rfl rfl h10) ?_
        rintro _ w10 ⟨b4, rfl, h11⟩
        replace h11 : St w0 F0 [boxC b4 93 [.int .i64 0, .int .i64 0], _, _, _] _ _ := h11
        refine RJ.op rfl rfl (op_store ttok 0 rfl h11 rfl rfl rfl rfl rfl rfl rfl) ?_
        intro _ w11 h12
        replace h12 : St w0 F0 [boxC b4 93 [.int .i64 r4.1.1, .int .i64 r4.1.2], _, _, _] _ _ := h12
        refine RJ.run ttok 1 rfl ?_
        refine RJ.fin [(3, _), (6, _), (7, .pointer (some ⟨b4, 0, none⟩)), (8, .bool true)] rfl ?_
        refine J.seq (J.region ?_)
        refine RJ.run ttok 1 rfl ?_
        refine RJ.fin [(3, _), (6, _), (7, _), (39, .bool true)] rfl ?_
        refine J.condT rfl ?_
        refine J.region ?_
        refine RJ.run ttok 2 rfl ?_
        refine RJ.q rfl rfl (q_load_box ttok 0 h12.wht rfl rfl rfl rfl rfl) ?_
        refine RJ.op rfl rfl (op_lit ttok (.int .i64) rfl ([r4.1.1] : List (Int)) rfl h12 rfl rfl (by decide) rfl rfl rfl rfl rfl rfl rfl) ?_
        rintro _ w12 ⟨b5, rfl, h13⟩
        replace h13 : St w0 F0 [ownC 3 (.int .i64) ([r4.1.1] : List (Int)) (.slice (some ⟨b5, 0, none⟩) ([r4.1.1] : List (Int)).length 1), _, _, _, _] _ _ := h13
        obtain ⟨p3, H⟩ := guard_t H
        refine RJ.op rfl rfl (op_append ttok rfl 4 rfl h13 rfl (Gives.of 0 rfl own_rd) rfl rfl rfl rfl rfl rfl (by decide) (by decide) p3) ?_
        rintro _ w13 ⟨A11, c_11, rfl, h14⟩
        replace h14 : St w0 F0 [ownC 3 (.int .i64) (x4 ++ ([r4.1.1] : List (Int))) (.slice A11 (x4 ++ ([r4.1.1] : List (Int))).length c_11), _, _, _, _] _ _ := h14
        refine RJ.run ttok 1 rfl ?_
        refine RJ.fin [(3, _), (6, .slice A11 (x4 ++ ([r4.1.1] : List (Int))).length c_11)] rfl ?_
        have h15 := h14.only [0, 2, 2] rfl
        replace h15 : St w0 F0 [_, _, _] _ _ := h15
        have h16 := ((h15.only [1, 1, 0] rfl).rds [] rfl)
        exact ⟨k2, by omega, r4.2, A10, c_10, (x4 ++ ([r4.1.1] : List (Int))), A11, c_11, rfl, h16, H⟩
      replace H := ite_f c2 H
      refine J.exit ?_
      refine J.seq (J.region ?_)
      refine RJ.run ttok 2 rfl ?_
      refine RJ.fin [(2, .slice A9 x4.length c_9)] rfl ?_
      have h17 := h9.only [2] rfl
      replace h17 : St w0 F0 [_] _ _ := h17
      refine J.ret ?_
      obtain rfl := Option.some.inj H
      exact ⟨_, _, _, (results_slots rfl), ⟨_, _, rfl, rfl⟩, h17.only [0] rfl⟩

/-! sluicegate/node.Heaviest -/
def node_Heaviest.l0 : Nat → (List (Int)) → (Int) → (Int) → Option (Int × Int)
  | 0, _, _, _ => none
  | k + 1, r1, x1, x2 => if (decide (x2 < (r1.length : Int))) = true then (if 0 ≤ x2 ∧ x2 < (r1.length : Int) then (if 0 ≤ x1 ∧ x1 < (r1.length : Int) then (if (decide ((gt r1 x1) < (gt r1 x2))) = true then (node_Heaviest.l0 k r1 x2 (w64 (x2 + 1))) else (node_Heaviest.l0 k r1 x1 (w64 (x2 + 1)))) else none) else none) else (if 0 ≤ x1 ∧ x1 < (r1.length : Int) then (some (x1, (gt r1 x1))) else none)
def node_Heaviest.f (k : Nat) (a0 : Int × List (Int) × List (List UInt8) × (List (List UInt8 × Bool × List UInt8)) × (List (List UInt8 × List UInt8))) : Option (Int × Int) := (node_Loads.f k (a0.1, a0.2.1, a0.2.2.1, a0.2.2.2.1, a0.2.2.2.2)).bind fun r1 => (if (decide ((r1.length : Int) = 0)) = true then (some (0, 0)) else (node_Heaviest.l0 k r1 0 0))
set_option maxRecDepth 20000 in
set_option maxHeartbeats 40000000 in
theorem node_Heaviest.spec {k : Nat} {a0 : Int × List (Int) × List (List UInt8) × (List (List UInt8 × Bool × List UInt8)) × (List (List UInt8 × List UInt8))} {A1 : Option Addr} {c_1 : Nat} {A2 : Option Addr} {c_2 : Nat} {A3 : Option Addr} {c_3 : Nat} {A4 : Option Addr} {c_4 : Nat} {r : Int × Int} (H : node_Heaviest.f k a0 = some r) :
    Spec Try.prog 35 [.agg #[.int .i64 a0.1, .slice A1 a0.2.1.length c_1, .slice A2 a0.2.2.1.length c_2, .slice A3 a0.2.2.2.1.length c_3, .slice A4 a0.2.2.2.2.length c_4]] [] [rdC 46 (.int .u32) a0.2.1 (.slice A1 a0.2.1.length c_1), rdC 9 .str a0.2.2.1 (.slice A2 a0.2.2.1.length c_2), rdC 48 (.pair .str (.pair .bool .str)) a0.2.2.2.1 (.slice A3 a0.2.2.2.1.length c_3), rdC 50 (.pair .str .str) a0.2.2.2.2 (.slice A4 a0.2.2.2.2.length c_4)] (fun v l => v = .tuple #[.int .i64 r.1, .int .i64 r.2] ∧ l = []) := by
  refine Spec.enter Try.func35 rfl (by kernel_rfl) (by kernel_rfl) fun w0 F0 h0 => ?_
  unfold node_Heaviest.f at H
  refine J.seq (J.region ?_)
  refine RJ.op rfl rfl (op_box rfl rfl h0) ?_
  rintro _ w1 ⟨b1, rfl, h1⟩
  replace h1 : St w0 F0 [boxC b1 31 [.int .i64 a0.1, .slice A1 a0.2.1.length c_1, .slice A2 a0.2.2.1.length c_2, .slice A3 a0.2.2.2.1.length c_3, .slice A4 a0.2.2.2.2.length c_4]] _ _ := h1
  refine RJ.run ttok 2 rfl ?_
  refine RJ.fin [(1, .pointer (some ⟨b1, 0, none⟩)), (2, .int .i64 0)] rfl ?_
  refine J.seq (J.region ?_)
  refine RJ.q rfl rfl (q_load_box ttok 0 h1.wht rfl rfl rfl rfl rfl) ?_
  obtain ⟨r1, q1, H⟩ := bind_t H
  refine RJ.op rfl rfl (op_call [] (node_Loads.spec q1) rfl rfl rfl h1 rfl (gcons (Gives.self 1 rfl) (gcons (Gives.self 2 rfl) (gcons (Gives.self 3 rfl) (gcons (Gives.self 4 rfl) gnil))))) ?_
  rintro _ w2 ⟨_, ⟨A5, c_5, rfl, rfl⟩, h2⟩
  replace h2 : St w0 F0 [ownC 3 (.int .i64) r1 (.slice A5 r1.length c_5), _] _ _ := h2
  refine RJ.run ttok 1 rfl ?_
  refine RJ.fin [(2, _), (4, .slice A5 r1.length c_5)] rfl ?_
  refine J.seq (J.seq (J.region ?_))
  refine RJ.run ttok 3 rfl ?_
  refine RJ.fin [(2, _), (4, _), (11, .bool (decide ((r1.length : Int) = 0)))] rfl ?_
  refine J.cond rfl (fun c1 => ?_) (fun c1 => ?_)
  · replace H := ite_t c1 H
    refine J.seq (J.region ?_)
    refine RJ.run ttok 2 rfl ?_
    refine RJ.fin [(2, _), (3, .int .i64 0)] rfl ?_
    have h3 := h2.only [] rfl
    replace h3 : St w0 F0 [] _ _ := h3
    refine J.ret ?_
    obtain rfl := Option.some.inj H
    exact ⟨_, _, _, (results_slots rfl), ⟨rfl, rfl⟩, h3.only [] rfl⟩
  replace H := ite_f c1 H
  refine J.skip ?_
  refine J.seq (J.seq (J.region ?_))
  refine RJ.run ttok 3 rfl ?_
  refine RJ.fin [(2, _), (4, _), (12, .slice A5 r1.length c_5), (13, .int .i64 (r1.length : Int)), (14, .int .i64 0)] rfl ?_
  refine J.block ?_
  have h8 := ((h2.only [0] rfl).rds [] rfl)
  refine J.loop (fun kk env w => ∃ (x1 : Int) (x2 : Int), env = [(2, .int .i64 x1), (4, .slice A5 r1.length c_5), (12, .slice A5 r1.length c_5), (13, .int .i64 (r1.length : Int)), (14, .int .i64 x2)] ∧ St w0 F0 [ownC 3 (.int .i64) r1 (.slice A5 r1.length c_5)] [] w ∧ node_Heaviest.l0 kk r1 x1 x2 = some r) (k := k) ⟨0, 0, rfl, h8, H⟩ ?_
  rintro k1 env w3 ⟨x1, x2, rfl, h4, H⟩
  cases k1 with
  | zero => exact nomatch (show none = some r from H)
  | succ k1 =>
    rw [node_Heaviest.l0] at H
    refine J.seq (J.region ?_)
    refine RJ.run ttok 1 rfl ?_
    refine RJ.fin [(2, _), (4, _), (12, _), (13, _), (14, _), (15, .bool (decide (x2 < (r1.length : Int))))] rfl ?_
    refine J.seq ?_
    refine J.cond rfl (fun c2 => ?_) (fun c2 => ?_)
    · replace H := ite_t c2 H
      refine J.skip ?_
      refine J.seq (J.block (J.seq (J.region ?_)))
      refine RJ.run ttok 1 rfl ?_
      obtain ⟨⟨p1, p2⟩, H⟩ := guard_t H
      have e1 := elem_A h4.wh (Gives.of 0 rfl own_rd) p1 p2
      refine RJ.q rfl rfl (q_index ttok rfl rfl rfl rfl rfl e1 p1 p2) ?_
      refine RJ.q rfl rfl (q_load_elem (f := 0) ttok rfl h4.wht (Gives.of 0 rfl own_rd) p1 p2 rfl rfl rfl rfl rfl) ?_
      refine RJ.run ttok 2 rfl ?_
      refine RJ.fin [(2, _), (4, _), (5, .int .i64 x2), (6, .int .i64 (gt r1 x2)), (12, _), (13, _), (14, _)] rfl ?_
      refine J.seq (J.region ?_)
      refine RJ.run ttok 3 rfl ?_
      obtain ⟨⟨p3, p4⟩, H⟩ := guard_t H
      refine RJ.q rfl rfl (q_index ttok rfl rfl rfl rfl rfl e1 p3 p4) ?_
      refine RJ.q rfl rfl (q_load_elem (f := 0) ttok rfl h4.wht (Gives.of 0 rfl own_rd) p3 p4 rfl rfl rfl rfl rfl) ?_
      refine RJ.run ttok 1 rfl ?_
      refine RJ.fin [(2, _), (4, _), (5, _), (12, _), (13, _), (14, _), (24, .bool (decide ((gt r1 x1) < (gt r1 x2))))] rfl ?_
      refine J.cond rfl (fun c3 => ?_) (fun c3 => ?_)
      · replace H := ite_t c3 H
        refine J.region ?_
        refine RJ.run ttok 2 rfl ?_
        refine RJ.fin [(2, .int .i64 x2), (4, _), (12, _), (13, _), (14, _)] rfl ?_
        refine J.region ?_
        refine RJ.run ttok 2 rfl ?_
        refine RJ.fin [(2, _), (4, _), (12, _), (13, _), (14, .int .i64 (w64 (x2 + 1)))] rfl ?_
        have h5 := ((h4.only [0] rfl).rds [] rfl)
        exact ⟨k1, by omega, x2, (w64 (x2 + 1)), rfl, h5, H⟩
      replace H := ite_f c3 H
      refine J.skip ?_
      refine J.region ?_
      refine RJ.run ttok 2 rfl ?_
      refine RJ.fin [(2, _), (4, _), (12, _), (13, _), (14, .int .i64 (w64 (x2 + 1)))] rfl ?_
      have h6 := ((h4.only [0] rfl).rds [] rfl)
      exact ⟨k1, by omega, x1, (w64 (x2 + 1)), rfl, h6, H⟩
    replace H := ite_f c2 H
    refine J.exit ?_
    refine J.seq ?_
    refine J.heldSt mix h4 ?_
    have h7 := h4.drew
    refine HJ.run ttok rfl [0, 1, 2, 5] rfl ?_
    obtain ⟨⟨p5, p6⟩, H⟩ := guard_t H
    have e2 := elem_A h7.wh (Gives.of 0 rfl own_rd) p5 p6
    refine HJ.q (i := 3) rfl rfl rfl rfl rfl rfl (q_index ttok rfl rfl rfl rfl rfl e2 p5 p6) ?_
    refine HJ.q (i := 4) rfl rfl rfl rfl rfl rfl (q_load_elem (f := 0) ttok rfl (fun w e => e) (Gives.of 0 rfl own_rd) p5 p6 rfl rfl rfl rfl rfl) ?_
    refine HJ.run ttok rfl [6] rfl ?_
    refine HJ.fin [(2, _), (3, .int .i64 (gt r1 x1))] rfl rfl ?_
    refine J.ret ?_
    obtain rfl := Option.some.inj H
    exact ⟨_, _, _, (results_slots rfl), ⟨rfl, rfl⟩, h7.only [] rfl⟩

/-! slices.Clone[[]uint32,uint32] -/
def slices_Clone_uint32_uint32.f (a0 : List (Int)) : Option (List (Int)) := if (([] : List (Int)).length + a0.length) * 4 ≤ 140737488355328 then (some (([] : List (Int)) ++ a0)) else none
set_option maxRecDepth 20000 in
set_option maxHeartbeats 40000000 in
theorem slices_Clone_uint32_uint32.spec {a0 : List (Int)} {A1 : Option Addr} {c_1 : Nat} {r : List (Int)} (H : slices_Clone_uint32_uint32.f a0 = some r) :
    Spec Try.prog 59 [.slice A1 a0.length c_1] [] [rdC 46 (.int .u32) a0 (.slice A1 a0.length c_1)] (fun v l => ∃ (A_0 : Option Addr) (c_0 : Nat), v = .slice A_0 r.length c_0 ∧ l = [ownC 46 (.int .u32) r (.slice A_0 r.length c_0)]) := by
  refine Spec.enter Try.func59 rfl (by kernel_rfl) (by kernel_rfl) fun w0 F0 h0 => ?_
  unfold slices_Clone_uint32_uint32.f at H
  refine J.seq (J.region ?_)
  refine RJ.run ttok 1 rfl ?_
  refine RJ.fin [(0, .slice A1 a0.length c_1)] rfl ?_
  refine J.seq (J.seq (J.region ?_))
  refine RJ.run ttok 2 rfl ?_
  refine RJ.fin [(0, _), (4, .bool A1.isNone)] rfl ?_
  refine J.cond rfl (fun c1 => ?_) (fun c1 => ?_)
  · have e1 := h0.nilrow (Gives.self 0 rfl) (by simpa using c1)
    replace H : (some ([] : List (Int))) = some r := by rw [e1] at H; simpa using H
    refine J.seq (J.region ?_)
    refine RJ.run ttok 1 rfl ?_
    refine RJ.fin [(2, .slice none ([] : List (Int)).length 0)] rfl ?_
    refine J.ret ?_
    have h1 := h0.addNil 46 (.int .u32)
    obtain rfl := Option.some.inj H
    exact ⟨_, _, _, (results_slots rfl), ⟨_, _, rfl, rfl⟩, h1.only [0] rfl⟩
  refine J.skip ?_
  refine J.seq (J.region ?_)
  refine RJ.op rfl rfl (op_lit ttok (.int .u32) rfl ([] : List (Int)) rfl h0 rfl rfl (by decide) rfl rfl rfl rfl rfl rfl rfl) ?_
  rintro _ w1 ⟨b1, rfl, h2⟩
  replace h2 : St w0 F0 [ownC 46 (.int .u32) ([] : List (Int)) (.slice (some ⟨b1, 0, none⟩) ([] : List (Int)).length 0)] _ _ := h2
  refine RJ.run ttok 1 rfl ?_
  obtain ⟨p1, H⟩ := guard_t H
  refine RJ.op rfl rfl (op_append ttok rfl 0 rfl h2 rfl (Gives.self 0 rfl) rfl rfl rfl rfl rfl rfl (by decide) (by decide) p1) ?_
  rintro _ w2 ⟨A2, c_2, rfl, h3⟩
  replace h3 : St w0 F0 [ownC 46 (.int .u32) (([] : List (Int)) ++ a0) (.slice A2 (([] : List (Int)) ++ a0).length c_2)] _ _ := h3
  refine RJ.run ttok 1 rfl ?_
  refine RJ.fin [(2, .slice A2 (([] : List (Int)) ++ a0).length c_2)] rfl ?_
  refine J.ret ?_
  obtain rfl := Option.some.inj H
  exact ⟨_, _, _, (results_slots rfl), ⟨_, _, rfl, rfl⟩, h3.only [0] rfl⟩

/-! slices.Clone[[]string,string] -/
def slices_Clone_string_string.f (a0 : List (List UInt8)) : Option (List (List UInt8)) := if (([] : List (List UInt8)).length + a0.length) * 16 ≤ 140737488355328 then (some (([] : List (List UInt8)) ++ a0)) else none
set_option maxRecDepth 20000 in
set_option maxHeartbeats 40000000 in
theorem slices_Clone_string_string.spec {a0 : List (List UInt8)} {A1 : Option Addr} {c_1 : Nat} {r : List (List UInt8)} (H : slices_Clone_string_string.f a0 = some r) :
    Spec Try.prog 60 [.slice A1 a0.length c_1] [] [rdC 9 .str a0 (.slice A1 a0.length c_1)] (fun v l => ∃ (A_0 : Option Addr) (c_0 : Nat), v = .slice A_0 r.length c_0 ∧ l = [ownC 9 .str r (.slice A_0 r.length c_0)]) := by
  refine Spec.enter Try.func60 rfl (by kernel_rfl) (by kernel_rfl) fun w0 F0 h0 => ?_
  unfold slices_Clone_string_string.f at H
  refine J.seq (J.region ?_)
  refine RJ.run ttok 1 rfl ?_
  refine RJ.fin [(0, .slice A1 a0.length c_1)] rfl ?_
  refine J.seq (J.seq (J.region ?_))
  refine RJ.run ttok 2 rfl ?_
  refine RJ.fin [(0, _), (4, .bool A1.isNone)] rfl ?_
  refine J.cond rfl (fun c1 => ?_) (fun c1 => ?_)
  · have e1 := h0.nilrow (Gives.self 0 rfl) (by simpa using c1)
    replace H : (some ([] : List (List UInt8))) = some r := by rw [e1] at H; simpa using H
    refine J.seq (J.region ?_)
    refine RJ.run ttok 1 rfl ?_
    refine RJ.fin [(2, .slice none ([] : List (List UInt8)).length 0)] rfl ?_
    refine J.ret ?_
    have h1 := h0.addNil 9 .str
    obtain rfl := Option.some.inj H
    exact ⟨_, _, _, (results_slots rfl), ⟨_, _, rfl, rfl⟩, h1.only [0] rfl⟩
  refine J.skip ?_
  refine J.seq (J.region ?_)
  refine RJ.op rfl rfl (op_lit ttok .str rfl ([] : List (List UInt8)) rfl h0 rfl rfl (by decide) rfl rfl rfl rfl rfl rfl rfl) ?_
  rintro _ w1 ⟨b1, rfl, h2⟩
  replace h2 : St w0 F0 [ownC 9 .str ([] : List (List UInt8)) (.slice (some ⟨b1, 0, none⟩) ([] : List (List UInt8)).length 0)] _ _ := h2
  refine RJ.run ttok 1 rfl ?_
  obtain ⟨p1, H⟩ := guard_t H
  refine RJ.op rfl rfl (op_append ttok rfl 0 rfl h2 rfl (Gives.self 0 rfl) rfl rfl rfl rfl rfl rfl (by decide) (by decide) p1) ?_
  rintro _ w2 ⟨A2, c_2, rfl, h3⟩
  replace h3 : St w0 F0 [ownC 9 .str (([] : List (List UInt8)) ++ a0) (.slice A2 (([] : List (List UInt8)) ++ a0).length c_2)] _ _ := h3
  refine RJ.run ttok 1 rfl ?_
  refine RJ.fin [(2, .slice A2 (([] : List (List UInt8)) ++ a0).length c_2)] rfl ?_
  refine J.ret ?_
  obtain rfl := Option.some.inj H
  exact ⟨_, _, _, (results_slots rfl), ⟨_, _, rfl, rfl⟩, h3.only [0] rfl⟩

/-! slices.Clone[[]sluicegate/api.Msg,sluicegate/api.Msg] -/
def slices_Clone_api_Msg_api_Msg.f (a0 : List (List UInt8 × Bool × List UInt8)) : Option ((List (List UInt8 × Bool × List UInt8))) := if (([] : List (List UInt8 × Bool × List UInt8)).length + a0.length) * 40 ≤ 140737488355328 then (some (([] : List (List UInt8 × Bool × List UInt8)) ++ a0)) else none
set_option maxRecDepth 20000 in
set_option maxHeartbeats 40000000 in
theorem slices_Clone_api_Msg_api_Msg.spec {a0 : List (List UInt8 × Bool × List UInt8)} {A1 : Option Addr} {c_1 : Nat} {r : (List (List UInt8 × Bool × List UInt8))} (H : slices_Clone_api_Msg_api_Msg.f a0 = some r) :
    Spec Try.prog 65 [.slice A1 a0.length c_1] [] [rdC 48 (.pair .str (.pair .bool .str)) a0 (.slice A1 a0.length c_1)] (fun v l => ∃ (A_0 : Option Addr) (c_0 : Nat), v = .slice A_0 r.length c_0 ∧ l = [ownC 48 (.pair .str (.pair .bool .str)) r (.slice A_0 r.length c_0)]) := by
  refine Spec.enter Try.func65 rfl (by kernel_rfl) (by kernel_rfl) fun w0 F0 h0 => ?_
  unfold slices_Clone_api_Msg_api_Msg.f at H
  refine J.seq (J.region ?_)
  refine RJ.run ttok 1 rfl ?_
  refine RJ.fin [(0, .slice A1 a0.length c_1)] rfl ?_
  refine J.seq (J.seq (J.region ?_))
  refine RJ.run ttok 2 rfl ?_
  refine RJ.fin [(0, _), (4, .bool A1.isNone)] rfl ?_
  refine J.cond rfl (fun c1 => ?_) (fun c1 => ?_)
  · have e1 := h0.nilrow (Gives.self 0 rfl) (by simpa using c1)
    replace H : (some ([] : List (List UInt8 × Bool × List UInt8))) = some r := by rw [e1] at H; simpa using H
    refine J.seq (J.region ?_)
    refine RJ.run ttok 1 rfl ?_
    refine RJ.fin [(2, .slice none ([] : List (List UInt8 × Bool × List UInt8)).length 0)] rfl ?_
    refine J.ret ?_
    have h1 := h0.addNil 48 (.pair .str (.pair .bool .str))
    obtain rfl := Option.some.inj H
    exact ⟨_, _, _, (results_slots rfl), ⟨_, _, rfl, rfl⟩, h1.only [0] rfl⟩
  refine J.skip ?_
  refine J.seq (J.region ?_)
  refine RJ.op rfl rfl (op_lit ttok (.pair .str (.pair .bool .str)) rfl ([] : List (List UInt8 × Bool × List UInt8)) rfl h0 rfl rfl (by decide) rfl rfl rfl rfl rfl rfl rfl) ?_
  rintro _ w1 ⟨b1, rfl, h2⟩
  replace h2 : St w0 F0 [ownC 48 (.pair .str (.pair .bool .str)) ([] : List (List UInt8 × Bool × List UInt8)) (.slice (some ⟨b1, 0, none⟩) ([] : List (List UInt8 × Bool × List UInt8)).length 0)] _ _ := h2
  refine RJ.run ttok 1 rfl ?_
  obtain ⟨p1, H⟩ := guard_t H
  refine RJ.op rfl rfl (op_append ttok rfl 0 rfl h2 rfl (Gives.self 0 rfl) rfl rfl rfl rfl rfl rfl (by decide) (by decide) p1) ?_
  rintro _ w2 ⟨A2, c_2, rfl, h3⟩
  replace h3 : St w0 F0 [ownC 48 (.pair .str (.pair .bool .str)) (([] : List (List UInt8 × Bool × List UInt8)) ++ a0) (.slice A2 (([] : List (List UInt8 × Bool × List UInt8)) ++ a0).length c_2)] _ _ := h3
  refine RJ.run ttok 1 rfl ?_
  refine RJ.fin [(2, .slice A2 (([] : List (List UInt8 × Bool × List UInt8)) ++ a0).length c_2)] rfl ?_
  refine J.ret ?_
  obtain rfl := Option.some.inj H
  exact ⟨_, _, _, (results_slots rfl), ⟨_, _, rfl, rfl⟩, h3.only [0] rfl⟩

/-! slices.Clone[[]sluicegate/api.Pair,sluicegate/api.Pair] -/
def slices_Clone_api_Pair_api_Pair.f (a0 : List (List UInt8 × List UInt8)) : Option ((List (List UInt8 × List UInt8))) := if (([] : List (List UInt8 × List UInt8)).length + a0.length) * 32 ≤ 140737488355328 then (some (([] : List (List UInt8 × List UInt8)) ++ a0)) else none
set_option maxRecDepth 20000 in
set_option maxHeartbeats 40000000 in
theorem slices_Clone_api_Pair_api_Pair.spec {a0 : List (List UInt8 × List UInt8)} {A1 : Option Addr} {c_1 : Nat} {r : (List (List UInt8 × List UInt8))} (H : slices_Clone_api_Pair_api_Pair.f a0 = some r) :
    Spec Try.prog 66 [.slice A1 a0.length c_1] [] [rdC 50 (.pair .str .str) a0 (.slice A1 a0.length c_1)] (fun v l => ∃ (A_0 : Option Addr) (c_0 : Nat), v = .slice A_0 r.length c_0 ∧ l = [ownC 50 (.pair .str .str) r (.slice A_0 r.length c_0)]) := by
  refine Spec.enter Try.func66 rfl (by kernel_rfl) (by kernel_rfl) fun w0 F0 h0 => ?_
  unfold slices_Clone_api_Pair_api_Pair.f at H
  refine J.seq (J.region ?_)
  refine RJ.run ttok 1 rfl ?_
  refine RJ.fin [(0, .slice A1 a0.length c_1)] rfl ?_
  refine J.seq (J.seq (J.region ?_))
  refine RJ.run ttok 2 rfl ?_
  refine RJ.fin [(0, _), (4, .bool A1.isNone)] rfl ?_
  refine J.cond rfl (fun c1 => ?_) (fun c1 => ?_)
  · have e1 := h0.nilrow (Gives.self 0 rfl) (by simpa using c1)
    replace H : (some ([] : List (List UInt8 × List UInt8))) = some r := by rw [e1] at H; simpa using H
    refine J.seq (J.region ?_)
    refine RJ.run ttok 1 rfl ?_
    refine RJ.fin [(2, .slice none ([] : List (List UInt8 × List UInt8)).length 0)] rfl ?_
    refine J.ret ?_
    have h1 := h0.addNil 50 (.pair .str .str)
    obtain rfl := Option.some.inj H
    exact ⟨_, _, _, (results_slots rfl), ⟨_, _, rfl, rfl⟩, h1.only [0] rfl⟩
  refine J.skip ?_
  refine J.seq (J.region ?_)
  refine RJ.op rfl rfl (op_lit ttok (.pair .str .str) rfl ([] : List (List UInt8 × List UInt8)) rfl h0 rfl rfl (by decide) rfl rfl rfl rfl rfl rfl rfl) ?_
  rintro _ w1 ⟨b1, rfl, h2⟩
  replace h2 : St w0 F0 [ownC 50 (.pair .str .str) ([] : List (List UInt8 × List UInt8)) (.slice (some ⟨b1, 0, none⟩) ([] : List (List UInt8 × List UInt8)).length 0)] _ _ := h2
  refine RJ.run ttok 1 rfl ?_
  obtain ⟨p1, H⟩ := guard_t H
  refine RJ.op rfl rfl (op_append ttok rfl 0 rfl h2 rfl (Gives.self 0 rfl) rfl rfl rfl rfl rfl rfl (by decide) (by decide) p1) ?_
  rintro _ w2 ⟨A2, c_2, rfl, h3⟩
  replace h3 : St w0 F0 [ownC 50 (.pair .str .str) (([] : List (List UInt8 × List UInt8)) ++ a0) (.slice A2 (([] : List (List UInt8 × List UInt8)) ++ a0).length c_2)] _ _ := h3
  refine RJ.run ttok 1 rfl ?_
  refine RJ.fin [(2, .slice A2 (([] : List (List UInt8 × List UInt8)) ++ a0).length c_2)] rfl ?_
  refine J.ret ?_
  obtain rfl := Option.some.inj H
  exact ⟨_, _, _, (results_slots rfl), ⟨_, _, rfl, rfl⟩, h3.only [0] rfl⟩

/-! sluicegate/node.Clone -/
def node_Clone.f (a0 : Int × List (Int) × List (List UInt8) × (List (List UInt8 × Bool × List UInt8)) × (List (List UInt8 × List UInt8))) : Option ((Int × List (Int) × List (List UInt8) × (List (List UInt8 × Bool × List UInt8)) × (List (List UInt8 × List UInt8)))) := (slices_Clone_uint32_uint32.f a0.2.1).bind fun r1 => ((slices_Clone_string_string.f a0.2.2.1).bind fun r2 => ((slices_Clone_api_Msg_api_Msg.f a0.2.2.2.1).bind fun r3 => ((slices_Clone_api_Pair_api_Pair.f a0.2.2.2.2).bind fun r4 => (some (a0.1, r1, r2, r3, r4)))))
set_option maxRecDepth 20000 in
set_option maxHeartbeats 40000000 in
theorem node_Clone.spec {a0 : Int × List (Int) × List (List UInt8) × (List (List UInt8 × Bool × List UInt8)) × (List (List UInt8 × List UInt8))} {A1 : Option Addr} {c_1 : Nat} {A2 : Option Addr} {c_2 : Nat} {A3 : Option Addr} {c_3 : Nat} {A4 : Option Addr} {c_4 : Nat} {r : (Int × List (Int) × List (List UInt8) × (List (List UInt8 × Bool × List UInt8)) × (List (List UInt8 × List UInt8)))} (H : node_Clone.f a0 = some r) :
    Spec Try.prog 30 [.agg #[.int .i64 a0.1, .slice A1 a0.2.1.length c_1, .slice A2 a0.2.2.1.length c_2, .slice A3 a0.2.2.2.1.length c_3, .slice A4 a0.2.2.2.2.length c_4]] [] [rdC 46 (.int .u32) a0.2.1 (.slice A1 a0.2.1.length c_1), rdC 9 .str a0.2.2.1 (.slice A2 a0.2.2.1.length c_2), rdC 48 (.pair .str (.pair .bool .str)) a0.2.2.2.1 (.slice A3 a0.2.2.2.1.length c_3), rdC 50 (.pair .str .str) a0.2.2.2.2 (.slice A4 a0.2.2.2.2.length c_4)] (fun v l => ∃ (A_0 : Option Addr) (c_0 : Nat) (A_1 : Option Addr) (c_1 : Nat) (A_2 : Option Addr) (c_2 : Nat) (A_3 : Option Addr) (c_3 : Nat), v = .agg #[.int .i64 r.1, .slice A_0 r.2.1.length c_0, .slice A_1 r.2.2.1.length c_1, .slice A_2 r.2.2.2.1.length c_2, .slice A_3 r.2.2.2.2.length c_3] ∧ l = [ownC 46 (.int .u32) r.2.1 (.slice A_0 r.2.1.length c_0), ownC 9 .str r.2.2.1 (.slice A_1 r.2.2.1.length c_1), ownC 48 (.pair .str (.pair .bool .str)) r.2.2.2.1 (.slice A_2 r.2.2.2.1.length c_2), ownC 50 (.pair .str .str) r.2.2.2.2 (.slice A_3 r.2.2.2.2.length c_3)]) := by
  refine Spec.enter Try.func30 rfl (by kernel_rfl) (by kernel_rfl) fun w0 F0 h0 => ?_
  unfold node_Clone.f at H
  refine J.seq (J.region ?_)
  refine RJ.op rfl rfl (op_box rfl rfl h0) ?_
  rintro _ w1 ⟨b1, rfl, h1⟩
  replace h1 : St w0 F0 [boxC b1 31 [.int .i64 a0.1, .slice A1 a0.2.1.length c_1, .slice A2 a0.2.2.1.length c_2, .slice A3 a0.2.2.2.1.length c_3, .slice A4 a0.2.2.2.2.length c_4]] _ _ := h1
  refine RJ.op rfl rfl (op_alloc ttok rfl rfl h1) ?_
  rintro _ w2 ⟨b2, rfl, h2⟩
  replace h2 : St w0 F0 [boxC b2 31 [.int .i64 0, .slice none ([] : List (Int)).length 0, .slice none ([] : List (List UInt8)).length 0, .slice none ([] : List (List UInt8 × Bool × List UInt8)).length 0, .slice none ([] : List (List UInt8 × List UInt8)).length 0], _] _ _ := h2
  refine RJ.fin [(1, .pointer (some ⟨b1, 0, none⟩)), (2, .pointer (some ⟨b2, 0, none⟩))] rfl ?_
  refine J.seq ?_
  refine J.heldSt mix (h2.only [1] rfl) ?_
  have h3 := h2.drew
  refine HJ.run ttok rfl [0, 2, 5, 8, 11] rfl ?_
  refine HJ.q (i := 1) rfl rfl rfl rfl rfl rfl (q_load_box ttok 0 (fun w e => e) rfl rfl rfl rfl rfl) ?_
  refine HJ.q (i := 3) rfl rfl rfl rfl rfl rfl (q_load_box ttok 0 (fun w e => e) rfl rfl rfl rfl rfl) ?_
  refine HJ.q (i := 6) rfl rfl rfl rfl rfl rfl (q_load_box ttok 0 (fun w e => e) rfl rfl rfl rfl rfl) ?_
  refine HJ.q (i := 9) rfl rfl rfl rfl rfl rfl (q_load_box ttok 0 (fun w e => e) rfl rfl rfl rfl rfl) ?_
  refine HJ.q (i := 12) rfl rfl rfl rfl rfl rfl (q_load_box ttok 0 (fun w e => e) rfl rfl rfl rfl rfl) ?_
  obtain ⟨r1, q1, H⟩ := bind_t H
  refine HJ.op (i := 4) rfl rfl rfl rfl rfl (op_call [] (slices_Clone_uint32_uint32.spec q1) rfl rfl rfl h3 rfl (gcons (Gives.self 2 rfl) gnil)) ?_
  rintro _ w3 ⟨_, ⟨A5, c_5, rfl, rfl⟩, h4⟩
  replace h4 : St w0 F0 [ownC 46 (.int .u32) r1 (.slice A5 r1.length c_5), _, _] _ _ := h4
  refine ⟨⟨[_, _], h4⟩, ?_⟩
  obtain ⟨r2, q2, H⟩ := bind_t H
  refine HJ.op (i := 7) rfl rfl rfl rfl rfl (op_call [] (slices_Clone_string_string.spec q2) rfl rfl rfl h4 rfl (gcons (Gives.self 4 rfl) gnil)) ?_
  rintro _ w4 ⟨_, ⟨A6, c_6, rfl, rfl⟩, h5⟩
  replace h5 : St w0 F0 [ownC 9 .str r2 (.slice A6 r2.length c_6), _, _, _] _ _ := h5
  refine ⟨⟨[_, _, _], h5⟩, ?_⟩
  obtain ⟨r3, q3, H⟩ := bind_t H
  refine HJ.op (i := 10) rfl rfl rfl rfl rfl (op_call [] (slices_Clone_api_Msg_api_Msg.spec q3) rfl rfl rfl h5 rfl (gcons (Gives.self 6 rfl) gnil)) ?_
  rintro _ w5 ⟨_, ⟨A7, c_7, rfl, rfl⟩, h6⟩
  replace h6 : St w0 F0 [ownC 48 (.pair .str (.pair .bool .str)) r3 (.slice A7 r3.length c_7), _, _, _, _] _ _ := h6
  refine ⟨⟨[_, _, _, _], h6⟩, ?_⟩
  obtain ⟨r4, q4, H⟩ := bind_t H
  refine HJ.op (i := 13) rfl rfl rfl rfl rfl (op_call [] (slices_Clone_api_Pair_api_Pair.spec q4) rfl rfl rfl h6 rfl (gcons (Gives.self 8 rfl) gnil)) ?_
  rintro _ w6 ⟨_, ⟨A8, c_8, rfl, rfl⟩, h7⟩
  replace h7 : St w0 F0 [ownC 50 (.pair .str .str) r4 (.slice A8 r4.length c_8), _, _, _, _, _] _ _ := h7
  refine ⟨⟨[_, _, _, _, _], h7⟩, ?_⟩
  refine HJ.run ttok rfl [14] rfl ?_
  refine HJ.op (i := 15) rfl rfl rfl rfl rfl (op_store ttok 4 rfl h7 rfl rfl rfl rfl rfl rfl rfl) ?_
  intro _ w7 h8
  replace h8 : St w0 F0 [boxC b2 31 [.int .i64 a0.1, .slice A5 r1.length c_5, .slice A6 r2.length c_6, .slice A7 r3.length c_7, .slice A8 r4.length c_8], _, _, _, _, _] _ _ := h8
  refine ⟨⟨[_, _, _, _, _], h8⟩, ?_⟩
  refine HJ.fin [(2, _)] rfl rfl ?_
  refine J.ret ?_
  obtain rfl := Option.some.inj H
  exact ⟨_, _, _, (results_two rfl (rvcons (RV.cell ttok 0 h8 rfl rfl rfl rfl) rvnil) rfl), ⟨_, _, _, _, _, _, _, _, rfl, rfl⟩, h8.only [4, 3, 2, 1] rfl⟩

/-! slices.Equal[[]uint32,uint32] -/
def slices_Equal_uint32_uint32.l0 : Nat → (List (Int)) → (List (Int)) → (Int) → Option (Bool)
  | 0, _, _, _ => none
  | k + 1, a0, a1, x1 => if (decide (x1 < (a0.length : Int))) = true then (if 0 ≤ x1 ∧ x1 < (a0.length : Int) then (if 0 ≤ x1 ∧ x1 < (a1.length : Int) then (if (!decide ((gt a0 x1) = (gt a1 x1))) = true then (some false) else (slices_Equal_uint32_uint32.l0 k a0 a1 (w64 (x1 + 1)))) else none) else none) else (some true)
def slices_Equal_uint32_uint32.f (k : Nat) (a0 : List (Int)) (a1 : List (Int)) : Option (Bool) := if (!decide ((a0.length : Int) = (a1.length : Int))) = true then (some false) else (slices_Equal_uint32_uint32.l0 k a0 a1 0)
set_option maxRecDepth 20000 in
set_option maxHeartbeats 40000000 in
theorem slices_Equal_uint32_uint32.spec {k : Nat} {a0 : List (Int)} {a1 : List (Int)} {A1 : Option Addr} {c_1 : Nat} {A2 : Option Addr} {c_2 : Nat} {r : Bool} (H : slices_Equal_uint32_uint32.f k a0 a1 = some r) :
    Spec Try.prog 67 [.slice A1 a0.length c_1, .slice A2 a1.length c_2] [] [rdC 46 (.int .u32) a0 (.slice A1 a0.length c_1), rdC 46 (.int .u32) a1 (.slice A2 a1.length c_2)] (fun v l => v = .bool r ∧ l = []) := by
  refine Spec.enter Try.func67 rfl (by kernel_rfl) (by kernel_rfl) fun w0 F0 h0 => ?_
  unfold slices_Equal_uint32_uint32.f at H
  refine J.seq (J.region ?_)
  refine RJ.run ttok 1 rfl ?_
  refine RJ.fin [(0, .slice A1 a0.length c_1), (1, .slice A2 a1.length c_2)] rfl ?_
  refine J.seq (J.seq (J.region ?_))
  refine RJ.run ttok 5 rfl ?_
  refine RJ.fin [(0, _), (1, _), (10, .bool (!decide ((a0.length : Int) = (a1.length : Int))))] rfl ?_
  refine J.cond rfl (fun c1 => ?_) (fun c1 => ?_)
  · replace H := ite_t c1 H
    refine J.seq (J.region ?_)
    refine RJ.run ttok 1 rfl ?_
    refine RJ.fin [(4, .bool false)] rfl ?_
    refine J.ret ?_
    obtain rfl := Option.some.inj H
    exact ⟨_, _, _, (results_slots rfl), ⟨rfl, rfl⟩, h0.only [] rfl⟩
  replace H := ite_f c1 H
  refine J.skip ?_
  refine J.seq (J.seq (J.region ?_))
  refine RJ.run ttok 3 rfl ?_
  refine RJ.fin [(0, _), (1, _), (12, .int .i64 (a0.length : Int)), (13, .int .i64 0)] rfl ?_
  refine J.block ?_
  have h4 := ((h0.only [] rfl).rds [0, 1] rfl)
  refine J.loop (fun kk env w => ∃ (x1 : Int), env = [(0, .slice A1 a0.length c_1), (1, .slice A2 a1.length c_2), (12, .int .i64 (a0.length : Int)), (13, .int .i64 x1)] ∧ St w0 F0 [] [rdC 46 (.int .u32) a0 (.slice A1 a0.length c_1), rdC 46 (.int .u32) a1 (.slice A2 a1.length c_2)] w ∧ slices_Equal_uint32_uint32.l0 kk a0 a1 x1 = some r) (k := k) ⟨0, rfl, h4, H⟩ ?_
  rintro k1 env w1 ⟨x1, rfl, h1, H⟩
  cases k1 with
  | zero => exact nomatch (show none = some r from H)
  | succ k1 =>
    rw [slices_Equal_uint32_uint32.l0] at H
    refine J.seq (J.region ?_)
    refine RJ.run ttok 1 rfl ?_
    refine RJ.fin [(0, _), (1, _), (12, _), (13, _), (14, .bool (decide (x1 < (a0.length : Int))))] rfl ?_
    refine J.seq ?_
    refine J.cond rfl (fun c2 => ?_) (fun c2 => ?_)
    · replace H := ite_t c2 H
      refine J.skip ?_
      refine J.seq (J.block (J.seq (J.region ?_)))
      refine RJ.run ttok 2 rfl ?_
      refine RJ.fin [(0, _), (1, _), (5, .int .i64 x1), (12, _), (13, _)] rfl ?_
      refine J.seq ?_
      refine J.heldSt mix h1 ?_
      have h2 := h1.drew
      refine HJ.run ttok rfl [0, 1, 4, 5] rfl ?_
      obtain ⟨⟨p1, p2⟩, H⟩ := guard_t H
      have e1 := elem_A h2.wh (Gives.self 0 rfl) p1 p2
      refine HJ.q (i := 2) rfl rfl rfl rfl rfl rfl (q_index ttok rfl rfl rfl rfl rfl e1 p1 p2) ?_
      refine HJ.q (i := 3) rfl rfl rfl rfl rfl rfl (q_load_elem (f := 0) ttok rfl (fun w e => e) (Gives.self 0 rfl) p1 p2 rfl rfl rfl rfl rfl) ?_
      obtain ⟨⟨p3, p4⟩, H⟩ := guard_t H
      have e2 := elem_A h2.wh (Gives.self 1 rfl) p3 p4
      refine HJ.q (i := 6) rfl rfl rfl rfl rfl rfl (q_index ttok rfl rfl rfl rfl rfl e2 p3 p4) ?_
      refine HJ.q (i := 7) rfl rfl rfl rfl rfl rfl (q_load_elem (f := 0) ttok rfl (fun w e => e) (Gives.self 1 rfl) p3 p4 rfl rfl rfl rfl rfl) ?_
      refine HJ.run ttok rfl [8] rfl ?_
      refine HJ.fin [(0, _), (1, _), (12, _), (13, _), (24, .bool (!decide ((gt a0 x1) = (gt a1 x1))))] rfl rfl ?_
      refine J.cond rfl (fun c3 => ?_) (fun c3 => ?_)
      · replace H := ite_t c3 H
        refine J.seq (J.region ?_)
        refine RJ.run ttok 1 rfl ?_
        refine RJ.fin [(4, .bool false)] rfl ?_
        refine J.ret ?_
        obtain rfl := Option.some.inj H
        exact ⟨_, _, _, (results_slots rfl), ⟨rfl, rfl⟩, h2.only [] rfl⟩
      replace H := ite_f c3 H
      refine J.skip ?_
      refine J.region ?_
      refine RJ.run ttok 2 rfl ?_
      refine RJ.fin [(0, _), (1, _), (12, _), (13, .int .i64 (w64 (x1 + 1)))] rfl ?_
      have h3 := ((h2.only [] rfl).rds [0, 1] rfl)
      exact ⟨k1, by omega, (w64 (x1 + 1)), rfl, h3, H⟩
    replace H := ite_f c2 H
    refine J.exit ?_
    refine J.seq (J.region ?_)
    refine RJ.run ttok 1 rfl ?_
    refine RJ.fin [(4, .bool true)] rfl ?_
    refine J.ret ?_
    obtain rfl := Option.some.inj H
    exact ⟨_, _, _, (results_slots rfl), ⟨rfl, rfl⟩, h1.only [] rfl⟩

/-! slices.Equal[[]string,string] -/
def slices_Equal_string_string.l0 : Nat → (List (List UInt8)) → (List (List UInt8)) → (Int) → Option (Bool)
  | 0, _, _, _ => none
  | k + 1, a0, a1, x1 => if (decide (x1 < (a0.length : Int))) = true then (if 0 ≤ x1 ∧ x1 < (a0.length : Int) then (if 0 ≤ x1 ∧ x1 < (a1.length : Int) then (if (!decide ((gt a0 x1) = (gt a1 x1))) = true then (some false) else (slices_Equal_string_string.l0 k a0 a1 (w64 (x1 + 1)))) else none) else none) else (some true)
def slices_Equal_string_string.f (k : Nat) (a0 : List (List UInt8)) (a1 : List (List UInt8)) : Option (Bool) := if (!decide ((a0.length : Int) = (a1.length : Int))) = true then (some false) else (slices_Equal_string_string.l0 k a0 a1 0)
set_option maxRecDepth 20000 in
set_option maxHeartbeats 40000000 in
theorem slices_Equal_string_string.spec {k : Nat} {a0 : List (List UInt8)} {a1 : List (List UInt8)} {A1 : Option Addr} {c_1 : Nat} {A2 : Option Addr} {c_2 : Nat} {r : Bool} (H : slices_Equal_string_string.f k a0 a1 = some r) :
    Spec Try.prog 68 [.slice A1 a0.length c_1, .slice A2 a1.length c_2] [] [rdC 9 .str a0 (.slice A1 a0.length c_1), rdC 9 .str a1 (.slice A2 a1.length c_2)] (fun v l => v = .bool r ∧ l = []) := by
  refine Spec.enter Try.func68 rfl (by kernel_rfl) (by kernel_rfl) fun w0 F0 h0 => ?_
  unfold slices_Equal_string_string.f at H
  refine J.seq (J.region ?_)
  refine RJ.run ttok 1 rfl ?_
  refine RJ.fin [(0, .slice A1 a0.length c_1), (1, .slice A2 a1.length c_2)] rfl ?_
  refine J.seq (J.seq (J.region ?_))
  refine RJ.run ttok 5 rfl ?_
  refine RJ.fin [(0, _), (1, _), (10, .bool (!decide ((a0.length : Int) = (a1.length : Int))))] rfl ?_
  refine J.cond rfl (fun c1 => ?_) (fun c1 => ?_)
  · replace H := ite_t c1 H
    refine J.seq (J.region ?_)
    refine RJ.run ttok 1 rfl ?_
    refine RJ.fin [(4, .bool false)] rfl ?_
    refine J.ret ?_
    obtain rfl := Option.some.inj H
    exact ⟨_, _, _, (results_slots rfl), ⟨rfl, rfl⟩, h0.only [] rfl⟩
  replace H := ite_f c1 H
  refine J.skip ?_
  refine J.seq (J.seq (J.region ?_))
  refine RJ.run ttok 3 rfl ?_
  refine RJ.fin [(0, _), (1, _), (12, .int .i64 (a0.length : Int)), (13, .int .i64 0)] rfl ?_
  refine J.block ?_
  have h4 := ((h0.only [] rfl).rds [0, 1] rfl)
  refine J.loop (fun kk env w => ∃ (x1 : Int), env = [(0, .slice A1 a0.length c_1), (1, .slice A2 a1.length c_2), (12, .int .i64 (a0.length : Int)), (13, .int .i64 x1)] ∧ St w0 F0 [] [rdC 9 .str a0 (.slice A1 a0.length c_1), rdC 9 .str a1 (.slice A2 a1.length c_2)] w ∧ slices_Equal_string_string.l0 kk a0 a1 x1 = some r) (k := k) ⟨0, rfl, h4, H⟩ ?_
  rintro k1 env w1 ⟨x1, rfl, h1, H⟩
  cases k1 with
  | zero => exact nomatch (show none = some r from H)
  | succ k1 =>
    rw [slices_Equal_string_string.l0] at H
    refine J.seq (J.region ?_)
    refine RJ.run ttok 1 rfl ?_
    refine RJ.fin [(0, _), (1, _), (12, _), (13, _), (14, .bool (decide (x1 < (a0.length : Int))))] rfl ?_
    refine J.seq ?_
    refine J.cond rfl (fun c2 => ?_) (fun c2 => ?_)
    · replace H := ite_t c2 H
      refine J.skip ?_
      refine J.seq (J.block (J.seq (J.region ?_)))
      refine RJ.run ttok 2 rfl ?_
      refine RJ.fin [(0, _), (1, _), (5, .int .i64 x1), (12, _), (13, _)] rfl ?_
      refine J.seq ?_
      refine J.heldSt mix h1 ?_
      have h2 := h1.drew
      refine HJ.run ttok rfl [0, 1, 4, 5] rfl ?_
      obtain ⟨⟨p1, p2⟩, H⟩ := guard_t H
      have e1 := elem_A h2.wh (Gives.self 0 rfl) p1 p2
      refine HJ.q (i := 2) rfl rfl rfl rfl rfl rfl (q_index ttok rfl rfl rfl rfl rfl e1 p1 p2) ?_
      refine HJ.q (i := 3) rfl rfl rfl rfl rfl rfl (q_load_elem (f := 0) ttok rfl (fun w e => e) (Gives.self 0 rfl) p1 p2 rfl rfl rfl rfl rfl) ?_
      obtain ⟨⟨p3, p4⟩, H⟩ := guard_t H
      have e2 := elem_A h2.wh (Gives.self 1 rfl) p3 p4
      refine HJ.q (i := 6) rfl rfl rfl rfl rfl rfl (q_index ttok rfl rfl rfl rfl rfl e2 p3 p4) ?_
      refine HJ.q (i := 7) rfl rfl rfl rfl rfl rfl (q_load_elem (f := 0) ttok rfl (fun w e => e) (Gives.self 1 rfl) p3 p4 rfl rfl rfl rfl rfl) ?_
      refine HJ.run ttok rfl [8] rfl ?_
      refine HJ.fin [(0, _), (1, _), (12, _), (13, _), (24, .bool (!decide ((gt a0 x1) = (gt a1 x1))))] rfl rfl ?_
      refine J.cond rfl (fun c3 => ?_) (fun c3 => ?_)
      · replace H := ite_t c3 H
        refine J.seq (J.region ?_)
        refine RJ.run ttok 1 rfl ?_
        refine RJ.fin [(4, .bool false)] rfl ?_
        refine J.ret ?_
        obtain rfl := Option.some.inj H
        exact ⟨_, _, _, (results_slots rfl), ⟨rfl, rfl⟩, h2.only [] rfl⟩
      replace H := ite_f c3 H
      refine J.skip ?_
      refine J.region ?_
      refine RJ.run ttok 2 rfl ?_
      refine RJ.fin [(0, _), (1, _), (12, _), (13, .int .i64 (w64 (x1 + 1)))] rfl ?_
      have h3 := ((h2.only [] rfl).rds [0, 1] rfl)
      exact ⟨k1, by omega, (w64 (x1 + 1)), rfl, h3, H⟩
    replace H := ite_f c2 H
    refine J.exit ?_
    refine J.seq (J.region ?_)
    refine RJ.run ttok 1 rfl ?_
    refine RJ.fin [(4, .bool true)] rfl ?_
    refine J.ret ?_
    obtain rfl := Option.some.inj H
    exact ⟨_, _, _, (results_slots rfl), ⟨rfl, rfl⟩, h1.only [] rfl⟩

/-! slices.Equal[[]sluicegate/api.Msg,sluicegate/api.Msg] -/
def slices_Equal_api_Msg_api_Msg.l0 : Nat → (List (List UInt8 × Bool × List UInt8)) → (List (List UInt8 × Bool × List UInt8)) → (Int) → Option (Bool)
  | 0, _, _, _ => none
  | k + 1, a0, a1, x1 => if (decide (x1 < (a0.length : Int))) = true then (if 0 ≤ x1 ∧ x1 < (a0.length : Int) then (if 0 ≤ x1 ∧ x1 < (a1.length : Int) then (if (!((decide (((gt a0 x1).1) = ((gt a1 x1).1))) && ((((gt a0 x1).2.1) == ((gt a1 x1).2.1)) && ((decide (((gt a0 x1).2.2) = ((gt a1 x1).2.2))) && true)))) = true then (some false) else (slices_Equal_api_Msg_api_Msg.l0 k a0 a1 (w64 (x1 + 1)))) else none) else none) else (some true)
def slices_Equal_api_Msg_api_Msg.f (k : Nat) (a0 : List (List UInt8 × Bool × List UInt8)) (a1 : List (List UInt8 × Bool × List UInt8)) : Option (Bool) := if (!decide ((a0.length : Int) = (a1.length : Int))) = true then (some false) else (slices_Equal_api_Msg_api_Msg.l0 k a0 a1 0)
set_option maxRecDepth 20000 in
set_option maxHeartbeats 40000000 in
theorem slices_Equal_api_Msg_api_Msg.spec {k : Nat} {a0 : List (List UInt8 × Bool × List UInt8)} {a1 : List (List UInt8 × Bool × List UInt8)} {A1 : Option Addr} {c_1 : Nat} {A2 : Option Addr} {c_2 : Nat} {r : Bool} (H : slices_Equal_api_Msg_api_Msg.f k a0 a1 = some r) :
    Spec Try.prog 97 [.slice A1 a0.length c_1, .slice A2 a1.length c_2] [] [rdC 48 (.pair .str (.pair .bool .str)) a0 (.slice A1 a0.length c_1), rdC 48 (.pair .str (.pair .bool .str)) a1 (.slice A2 a1.length c_2)] (fun v l => v = .bool r ∧ l = []) := by
  refine Spec.enter Try.func97 rfl (by kernel_rfl) (by kernel_rfl) fun w0 F0 h0 => ?_
  unfold slices_Equal_api_Msg_api_Msg.f at H
  refine J.seq (J.region ?_)
  refine RJ.run ttok 1 rfl ?_
  refine RJ.fin [(0, .slice A1 a0.length c_1), (1, .slice A2 a1.length c_2)] rfl ?_
  refine J.seq (J.seq (J.region ?_))
  refine RJ.run ttok 5 rfl ?_
  refine RJ.fin [(0, _), (1, _), (10, .bool (!decide ((a0.length : Int) = (a1.length : Int))))] rfl ?_
  refine J.cond rfl (fun c1 => ?_) (fun c1 => ?_)
  · replace H := ite_t c1 H
    refine J.seq (J.region ?_)
    refine RJ.run ttok 1 rfl ?_
    refine RJ.fin [(4, .bool false)] rfl ?_
    refine J.ret ?_
    obtain rfl := Option.some.inj H
    exact ⟨_, _, _, (results_slots rfl), ⟨rfl, rfl⟩, h0.only [] rfl⟩
  replace H := ite_f c1 H
  refine J.skip ?_
  refine J.seq (J.seq (J.region ?_))
  refine RJ.run ttok 3 rfl ?_
  refine RJ.fin [(0, _), (1, _), (12, .int .i64 (a0.length : Int)), (13, .int .i64 0)] rfl ?_
  refine J.block ?_
  have h4 := ((h0.only [] rfl).rds [0, 1] rfl)
  refine J.loop (fun kk env w => ∃ (x1 : Int), env = [(0, .slice A1 a0.length c_1), (1, .slice A2 a1.length c_2), (12, .int .i64 (a0.length : Int)), (13, .int .i64 x1)] ∧ St w0 F0 [] [rdC 48 (.pair .str (.pair .bool .str)) a0 (.slice A1 a0.length c_1), rdC 48 (.pair .str (.pair .bool .str)) a1 (.slice A2 a1.length c_2)] w ∧ slices_Equal_api_Msg_api_Msg.l0 kk a0 a1 x1 = some r) (k := k) ⟨0, rfl, h4, H⟩ ?_
  rintro k1 env w1 ⟨x1, rfl, h1, H⟩
  cases k1 with
  | zero => exact nomatch (show none = some r from H)
  | succ k1 =>
    rw [slices_Equal_api_Msg_api_Msg.l0] at H
    refine J.seq (J.region ?_)
    refine RJ.run ttok 1 rfl ?_
    refine RJ.fin [(0, _), (1, _), (12, _), (13, _), (14, .bool (decide (x1 < (a0.length : Int))))] rfl ?_
    refine J.seq ?_
    refine J.cond rfl (fun c2 => ?_) (fun c2 => ?_)
    · replace H := ite_t c2 H
      refine J.skip ?_
      refine J.seq (J.block (J.seq (J.region ?_)))
      refine RJ.run ttok 2 rfl ?_
      refine RJ.fin [(0, _), (1, _), (5, .int .i64 x1), (12, _), (13, _)] rfl ?_
      refine J.seq ?_
      refine J.heldSt mix h1 ?_
      have h2 := h1.drew
      refine HJ.run ttok rfl [0, 1, 4, 5] rfl ?_
      obtain ⟨⟨p1, p2⟩, H⟩ := guard_t H
      have e1 := elem_A h2.wh (Gives.self 0 rfl) p1 p2
      refine HJ.q (i := 2) rfl rfl rfl rfl rfl rfl (q_index ttok rfl rfl rfl rfl rfl e1 p1 p2) ?_
      refine HJ.q (i := 3) rfl rfl rfl rfl rfl rfl (q_load_elem (f := 0) ttok rfl (fun w e => e) (Gives.self 0 rfl) p1 p2 rfl rfl rfl rfl rfl) ?_
      obtain ⟨⟨p3, p4⟩, H⟩ := guard_t H
      have e2 := elem_A h2.wh (Gives.self 1 rfl) p3 p4
      refine HJ.q (i := 6) rfl rfl rfl rfl rfl rfl (q_index ttok rfl rfl rfl rfl rfl e2 p3 p4) ?_
      refine HJ.q (i := 7) rfl rfl rfl rfl rfl rfl (q_load_elem (f := 0) ttok rfl (fun w e => e) (Gives.self 1 rfl) p3 p4 rfl rfl rfl rfl rfl) ?_
      refine HJ.run ttok rfl [8] rfl ?_
      refine HJ.fin [(0, _), (1, _), (12, _), (13, _), (24, .bool (!((decide (((gt a0 x1).1) = ((gt a1 x1).1))) && ((((gt a0 x1).2.1) == ((gt a1 x1).2.1)) && ((decide (((gt a0 x1).2.2) = ((gt a1 x1).2.2))) && true)))))] rfl rfl ?_
      refine J.cond rfl (fun c3 => ?_) (fun c3 => ?_)
      · replace H := ite_t c3 H
        refine J.seq (J.region ?_)
        refine RJ.run ttok 1 rfl ?_
        refine RJ.fin [(4, .bool false)] rfl ?_
        refine J.ret ?_
        obtain rfl := Option.some.inj H
        exact ⟨_, _, _, (results_slots rfl), ⟨rfl, rfl⟩, h2.only [] rfl⟩
      replace H := ite_f c3 H
      refine J.skip ?_
      refine J.region ?_
      refine RJ.run ttok 2 rfl ?_
      refine RJ.fin [(0, _), (1, _), (12, _), (13, .int .i64 (w64 (x1 + 1)))] rfl ?_
      have h3 := ((h2.only [] rfl).rds [0, 1] rfl)
      exact ⟨k1, by omega, (w64 (x1 + 1)), rfl, h3, H⟩
    replace H := ite_f c2 H
    refine J.exit ?_
    refine J.seq (J.region ?_)
    refine RJ.run ttok 1 rfl ?_
    refine RJ.fin [(4, .bool true)] rfl ?_
    refine J.ret ?_
    obtain rfl := Option.some.inj H
    exact ⟨_, _, _, (results_slots rfl), ⟨rfl, rfl⟩, h1.only [] rfl⟩

/-! sluicegate/buf.Same -/
def buf_Same.f (k : Nat) (a0 : List (List UInt8 × Bool × List UInt8)) (a1 : List (List UInt8 × Bool × List UInt8)) : Option (Bool) := (slices_Equal_api_Msg_api_Msg.f k a0 a1).bind fun r1 => (some r1)
set_option maxRecDepth 20000 in
set_option maxHeartbeats 40000000 in
theorem buf_Same.spec {k : Nat} {a0 : List (List UInt8 × Bool × List UInt8)} {a1 : List (List UInt8 × Bool × List UInt8)} {A1 : Option Addr} {c_1 : Nat} {A2 : Option Addr} {c_2 : Nat} {r : Bool} (H : buf_Same.f k a0 a1 = some r) :
    Spec Try.prog 69 [.slice A1 a0.length c_1, .slice A2 a1.length c_2] [] [rdC 48 (.pair .str (.pair .bool .str)) a0 (.slice A1 a0.length c_1), rdC 48 (.pair .str (.pair .bool .str)) a1 (.slice A2 a1.length c_2)] (fun v l => v = .bool r ∧ l = []) := by
  refine Spec.enter Try.func69 rfl (by kernel_rfl) (by kernel_rfl) fun w0 F0 h0 => ?_
  unfold buf_Same.f at H
  refine J.seq (J.region ?_)
  refine RJ.run ttok 1 rfl ?_
  refine RJ.fin [(0, .slice A1 a0.length c_1), (1, .slice A2 a1.length c_2)] rfl ?_
  refine J.seq (J.region ?_)
  refine RJ.run ttok 2 rfl ?_
  obtain ⟨r1, q1, H⟩ := bind_t H
  refine RJ.op rfl rfl (op_call [] (slices_Equal_api_Msg_api_Msg.spec q1) rfl rfl rfl h0 rfl (gcons (Gives.self 0 rfl) (gcons (Gives.self 1 rfl) gnil))) ?_
  rintro _ w1 ⟨_, ⟨rfl, rfl⟩, h1⟩
  replace h1 : St w0 F0 [] _ _ := h1
  refine RJ.run ttok 1 rfl ?_
  refine RJ.fin [(4, .bool r1)] rfl ?_
  refine J.ret ?_
  obtain rfl := Option.some.inj H
  exact ⟨_, _, _, (results_slots rfl), ⟨rfl, rfl⟩, h1.only [] rfl⟩

/-! slices.Equal[[]sluicegate/api.Pair,sluicegate/api.Pair] -/
def slices_Equal_api_Pair_api_Pair.l0 : Nat → (List (List UInt8 × List UInt8)) → (List (List UInt8 × List UInt8)) → (Int) → Option (Bool)
  | 0, _, _, _ => none
  | k + 1, a0, a1, x1 => if (decide (x1 < (a0.length : Int))) = true then (if 0 ≤ x1 ∧ x1 < (a0.length : Int) then (if 0 ≤ x1 ∧ x1 < (a1.length : Int) then (if (!((decide (((gt a0 x1).1) = ((gt a1 x1).1))) && ((decide (((gt a0 x1).2) = ((gt a1 x1).2))) && true))) = true then (some false) else (slices_Equal_api_Pair_api_Pair.l0 k a0 a1 (w64 (x1 + 1)))) else none) else none) else (some true)
def slices_Equal_api_Pair_api_Pair.f (k : Nat) (a0 : List (List UInt8 × List UInt8)) (a1 : List (List UInt8 × List UInt8)) : Option (Bool) := if (!decide ((a0.length : Int) = (a1.length : Int))) = true then (some false) else (slices_Equal_api_Pair_api_Pair.l0 k a0 a1 0)
set_option maxRecDepth 20000 in
set_option maxHeartbeats 40000000 in
theorem slices_Equal_api_Pair_api_Pair.spec {k : Nat} {a0 : List (List UInt8 × List UInt8)} {a1 : List (List UInt8 × List UInt8)} {A1 : Option Addr} {c_1 : Nat} {A2 : Option Addr} {c_2 : Nat} {r : Bool} (H : slices_Equal_api_Pair_api_Pair.f k a0 a1 = some r) :
    Spec Try.prog 87 [.slice A1 a0.length c_1, .slice A2 a1.length c_2] [] [rdC 50 (.pair .str .str) a0 (.slice A1 a0.length c_1), rdC 50 (.pair .str .str) a1 (.slice A2 a1.length c_2)] (fun v l => v = .bool r ∧ l = []) := by
  refine Spec.enter Try.func87 rfl (by kernel_rfl) (by kernel_rfl) fun w0 F0 h0 => ?_
  unfold slices_Equal_api_Pair_api_Pair.f at H
  refine J.seq (J.region ?_)
  refine RJ.run ttok 1 rfl ?_
  refine RJ.fin [(0, .slice A1 a0.length c_1), (1, .slice A2 a1.length c_2)] rfl ?_
  refine J.seq (J.seq (J.region ?_))
  refine RJ.run ttok 5 rfl ?_
  refine RJ.fin [(0, _), (1, _), (10, .bool (!decide ((a0.length : Int) = (a1.length : Int))))] rfl ?_
  refine J.cond rfl (fun c1 => ?_) (fun c1 => ?_)
  · replace H := ite_t c1 H
    refine J.seq (J.region ?_)
    refine RJ.run ttok 1 rfl ?_
    refine RJ.fin [(4, .bool false)] rfl ?_
    refine J.ret ?_
    obtain rfl := Option.some.inj H
    exact ⟨_, _, _, (results_slots rfl), ⟨rfl, rfl⟩, h0.only [] rfl⟩
  replace H := ite_f c1 H
  refine J.skip ?_
  refine J.seq (J.seq (J.region ?_))
  refine RJ.run ttok 3 rfl ?_
  refine RJ.fin [(0, _), (1, _), (12, .int .i64 (a0.length : Int)), (13, .int .i64 0)] rfl ?_
  refine J.block ?_
  have h4 := ((h0.only [] rfl).rds [0, 1] rfl)
  refine J.loop (fun kk env w => ∃ (x1 : Int), env = [(0, .slice A1 a0.length c_1), (1, .slice A2 a1.length c_2), (12, .int .i64 (a0.length : Int)), (13, .int .i64 x1)] ∧ St w0 F0 [] [rdC 50 (.pair .str .str) a0 (.slice A1 a0.length c_1), rdC 50 (.pair .str .str) a1 (.slice A2 a1.length c_2)] w ∧ slices_Equal_api_Pair_api_Pair.l0 kk a0 a1 x1 = some r) (k := k) ⟨0, rfl, h4, H⟩ ?_
  rintro k1 env w1 ⟨x1, rfl, h1, H⟩
  cases k1 with
  | zero => exact nomatch (show none = some r from H)
  | succ k1 =>
    rw [slices_Equal_api_Pair_api_Pair.l0] at H
    refine J.seq (J.region ?_)
    refine RJ.run ttok 1 rfl ?_
    refine RJ.fin [(0, _), (1, _), (12, _), (13, _), (14, .bool (decide (x1 < (a0.length : Int))))] rfl ?_
    refine J.seq ?_
    refine J.cond rfl (fun c2 => ?_) (fun c2 => ?_)
    · replace H := ite_t c2 H
      refine J.skip ?_
      refine J.seq (J.block (J.seq (J.region ?_)))
      refine RJ.run ttok 2 rfl ?_
      refine RJ.fin [(0, _), (1, _), (5, .int .i64 x1), (12, _), (13, _)] rfl ?_
      refine J.seq ?_
      refine J.heldSt mix h1 ?_
      have h2 := h1.drew
      refine HJ.run ttok rfl [0, 1, 4, 5] rfl ?_
      obtain ⟨⟨p1, p2⟩, H⟩ := guard_t H
      have e1 := elem_A h2.wh (Gives.self 0 rfl) p1 p2
      refine HJ.q (i := 2) rfl rfl rfl rfl rfl rfl (q_index ttok rfl rfl rfl rfl rfl e1 p1 p2) ?_
      refine HJ.q (i := 3) rfl rfl rfl rfl rfl rfl (q_load_elem (f := 0) ttok rfl (fun w e => e) (Gives.self 0 rfl) p1 p2 rfl rfl rfl rfl rfl) ?_
      obtain ⟨⟨p3, p4⟩, H⟩ := guard_t H
      have e2 := elem_A h2.wh (Gives.self 1 rfl) p3 p4
      refine HJ.q (i := 6) rfl rfl rfl rfl rfl rfl (q_index ttok rfl rfl rfl rfl rfl e2 p3 p4) ?_
      refine HJ.q (i := 7) rfl rfl rfl rfl rfl rfl (q_load_elem (f := 0) ttok rfl (fun w e => e) (Gives.self 1 rfl) p3 p4 rfl rfl rfl rfl rfl) ?_
      refine HJ.run ttok rfl [8] rfl ?_
      refine HJ.fin [(0, _), (1, _), (12, _), (13, _), (24, .bool (!((decide (((gt a0 x1).1) = ((gt a1 x1).1))) && ((decide (((gt a0 x1).2) = ((gt a1 x1).2))) && true))))] rfl rfl ?_
      refine J.cond rfl (fun c3 => ?_) (fun c3 => ?_)
      · replace H := ite_t c3 H
        refine J.seq (J.region ?_)
        refine RJ.run ttok 1 rfl ?_
        refine RJ.fin [(4, .bool false)] rfl ?_
        refine J.ret ?_
        obtain rfl := Option.some.inj H
        exact ⟨_, _, _, (results_slots rfl), ⟨rfl, rfl⟩, h2.only [] rfl⟩
      replace H := ite_f c3 H
      refine J.skip ?_
      refine J.region ?_
      refine RJ.run ttok 2 rfl ?_
      refine RJ.fin [(0, _), (1, _), (12, _), (13, .int .i64 (w64 (x1 + 1)))] rfl ?_
      have h3 := ((h2.only [] rfl).rds [0, 1] rfl)
      exact ⟨k1, by omega, (w64 (x1 + 1)), rfl, h3, H⟩
    replace H := ite_f c2 H
    refine J.exit ?_
    refine J.seq (J.region ?_)
    refine RJ.run ttok 1 rfl ?_
    refine RJ.fin [(4, .bool true)] rfl ?_
    refine J.ret ?_
    obtain rfl := Option.some.inj H
    exact ⟨_, _, _, (results_slots rfl), ⟨rfl, rfl⟩, h1.only [] rfl⟩

/-! sluicegate/leaf.Same -/
def leaf_Same.f (k : Nat) (a0 : List (List UInt8 × List UInt8)) (a1 : List (List UInt8 × List UInt8)) : Option (Bool) := (slices_Equal_api_Pair_api_Pair.f k a0 a1).bind fun r1 => (some r1)
set_option maxRecDepth 20000 in
set_option maxHeartbeats 40000000 in
theorem leaf_Same.spec {k : Nat} {a0 : List (List UInt8 × List UInt8)} {a1 : List (List UInt8 × List UInt8)} {A1 : Option Addr} {c_1 : Nat} {A2 : Option Addr} {c_2 : Nat} {r : Bool} (H : leaf_Same.f k a0 a1 = some r) :
    Spec Try.prog 54 [.slice A1 a0.length c_1, .slice A2 a1.length c_2] [] [rdC 50 (.pair .str .str) a0 (.slice A1 a0.length c_1), rdC 50 (.pair .str .str) a1 (.slice A2 a1.length c_2)] (fun v l => v = .bool r ∧ l = []) := by
  refine Spec.enter Try.func54 rfl (by kernel_rfl) (by kernel_rfl) fun w0 F0 h0 => ?_
  unfold leaf_Same.f at H
  refine J.seq (J.region ?_)
  refine RJ.run ttok 1 rfl ?_
  refine RJ.fin [(0, .slice A1 a0.length c_1), (1, .slice A2 a1.length c_2)] rfl ?_
  refine J.seq (J.region ?_)
  refine RJ.run ttok 2 rfl ?_
  obtain ⟨r1, q1, H⟩ := bind_t H
  refine RJ.op rfl rfl (op_call [] (slices_Equal_api_Pair_api_Pair.spec q1) rfl rfl rfl h0 rfl (gcons (Gives.self 0 rfl) (gcons (Gives.self 1 rfl) gnil))) ?_
  rintro _ w1 ⟨_, ⟨rfl, rfl⟩, h1⟩
  replace h1 : St w0 F0 [] _ _ := h1
  refine RJ.run ttok 1 rfl ?_
  refine RJ.fin [(4, .bool r1)] rfl ?_
  refine J.ret ?_
  obtain rfl := Option.some.inj H
  exact ⟨_, _, _, (results_slots rfl), ⟨rfl, rfl⟩, h1.only [] rfl⟩

/-! sluicegate/node.Same -/
def node_Same.f (k : Nat) (a0 : Int × List (Int) × List (List UInt8) × (List (List UInt8 × Bool × List UInt8)) × (List (List UInt8 × List UInt8))) (a1 : Int × List (Int) × List (List UInt8) × (List (List UInt8 × Bool × List UInt8)) × (List (List UInt8 × List UInt8))) : Option (Bool) := if (decide (a0.1 = a1.1)) = true then ((slices_Equal_uint32_uint32.f k a0.2.1 a1.2.1).bind fun r1 => (if r1 = true then ((slices_Equal_string_string.f k a0.2.2.1 a1.2.2.1).bind fun r2 => (if r2 = true then ((buf_Same.f k a0.2.2.2.1 a1.2.2.2.1).bind fun r3 => (if r3 = true then ((leaf_Same.f k a0.2.2.2.2 a1.2.2.2.2).bind fun r4 => (some r4)) else (some false))) else (some false))) else (some false))) else (some false)
set_option maxRecDepth 20000 in
set_option maxHeartbeats 40000000 in
theorem node_Same.spec {k : Nat} {a0 : Int × List (Int) × List (List UInt8) × (List (List UInt8 × Bool × List UInt8)) × (List (List UInt8 × List UInt8))} {a1 : Int × List (Int) × List (List UInt8) × (List (List UInt8 × Bool × List UInt8)) × (List (List UInt8 × List UInt8))} {A1 : Option Addr} {c_1 : Nat} {A2 : Option Addr} {c_2 : Nat} {A3 : Option Addr} {c_3 : Nat} {A4 : Option Addr} {c_4 : Nat} {A5 : Option Addr} {c_5 : Nat} {A6 : Option Addr} {c_6 : Nat} {A7 : Option Addr} {c_7 : Nat} {A8 : Option Addr} {c_8 : Nat} {r : Bool} (H : node_Same.f k a0 a1 = some r) :
    Spec Try.prog 31 [.agg #[.int .i64 a0.1, .slice A1 a0.2.1.length c_1, .slice A2 a0.2.2.1.length c_2, .slice A3 a0.2.2.2.1.length c_3, .slice A4 a0.2.2.2.2.length c_4], .agg #[.int .i64 a1.1, .slice A5 a1.2.1.length c_5, .slice A6 a1.2.2.1.length c_6, .slice A7 a1.2.2.2.1.length c_7, .slice A8 a1.2.2.2.2.length c_8]] [] [rdC 46 (.int .u32) a0.2.1 (.slice A1 a0.2.1.length c_1), rdC 9 .str a0.2.2.1 (.slice A2 a0.2.2.1.length c_2), rdC 48 (.pair .str (.pair .bool .str)) a0.2.2.2.1 (.slice A3 a0.2.2.2.1.length c_3), rdC 50 (.pair .str .str) a0.2.2.2.2 (.slice A4 a0.2.2.2.2.length c_4), rdC 46 (.int .u32) a1.2.1 (.slice A5 a1.2.1.length c_5), rdC 9 .str a1.2.2.1 (.slice A6 a1.2.2.1.length c_6), rdC 48 (.pair .str (.pair .bool .str)) a1.2.2.2.1 (.slice A7 a1.2.2.2.1.length c_7), rdC 50 (.pair .str .str) a1.2.2.2.2 (.slice A8 a1.2.2.2.2.length c_8)] (fun v l => v = .bool r ∧ l = []) := by
  refine Spec.enter Try.func31 rfl (by kernel_rfl) (by kernel_rfl) fun w0 F0 h0 => ?_
  unfold node_Same.f at H
  refine J.seq (J.region ?_)
  refine RJ.op rfl rfl (op_box rfl rfl h0) ?_
  rintro _ w1 ⟨b1, rfl, h1⟩
  replace h1 : St w0 F0 [boxC b1 31 [.int .i64 a0.1, .slice A1 a0.2.1.length c_1, .slice A2 a0.2.2.1.length c_2, .slice A3 a0.2.2.2.1.length c_3, .slice A4 a0.2.2.2.2.length c_4]] _ _ := h1
  refine RJ.op rfl rfl (op_box rfl rfl h1) ?_
  rintro _ w2 ⟨b2, rfl, h2⟩
  replace h2 : St w0 F0 [boxC b2 31 [.int .i64 a1.1, .slice A5 a1.2.1.length c_5, .slice A6 a1.2.2.1.length c_6, .slice A7 a1.2.2.2.1.length c_7, .slice A8 a1.2.2.2.2.length c_8], _] _ _ := h2
  refine RJ.run ttok 1 rfl ?_
  refine RJ.fin [(2, .pointer (some ⟨b1, 0, none⟩)), (3, .pointer (some ⟨b2, 0, none⟩))] rfl ?_
  refine J.seq (J.region ?_)
  refine RJ.run ttok 1 rfl ?_
  refine RJ.q rfl rfl (q_load_box ttok 1 h2.wht rfl rfl rfl rfl rfl) ?_
  refine RJ.run ttok 1 rfl ?_
  refine RJ.q rfl rfl (q_load_box ttok 0 h2.wht rfl rfl rfl rfl rfl) ?_
  refine RJ.run ttok 2 rfl ?_
  rcases Bool.eq_false_or_eq_true (decide (a0.1 = a1.1)) with c1 | c1
  · replace H := ite_t c1 H
    refine RJ.know (t := 10) rfl (congrArg Value.bool c1) ?_
    refine RJ.run ttok 1 rfl ?_
    refine RJ.q rfl rfl (q_load_box ttok 1 h2.wht rfl rfl rfl rfl rfl) ?_
    refine RJ.run ttok 1 rfl ?_
    refine RJ.q rfl rfl (q_load_box ttok 0 h2.wht rfl rfl rfl rfl rfl) ?_
    obtain ⟨r1, q1, H⟩ := bind_t H
    refine RJ.op rfl rfl (op_call [] (slices_Equal_uint32_uint32.spec q1) rfl rfl rfl h2 rfl (gcons (Gives.self 2 rfl) (gcons (Gives.self 6 rfl) gnil))) ?_
    rintro _ w3 ⟨_, ⟨rfl, rfl⟩, h3⟩
    replace h3 : St w0 F0 [_, _] _ _ := h3
    refine RJ.run ttok 2 rfl ?_
    rcases Bool.eq_false_or_eq_true r1 with c2 | c2
    · replace H := ite_t c2 H
      refine RJ.know (t := 17) rfl (congrArg Value.bool c2) ?_
      refine RJ.run ttok 1 rfl ?_
      refine RJ.q rfl rfl (q_load_box ttok 1 h3.wht rfl rfl rfl rfl rfl) ?_
      refine RJ.run ttok 1 rfl ?_
      refine RJ.q rfl rfl (q_load_box ttok 0 h3.wht rfl rfl rfl rfl rfl) ?_
      obtain ⟨r2, q2, H⟩ := bind_t H
      refine RJ.op rfl rfl (op_call [] (slices_Equal_string_string.spec q2) rfl rfl rfl h3 rfl (gcons (Gives.self 3 rfl) (gcons (Gives.self 7 rfl) gnil))) ?_
      rintro _ w4 ⟨_, ⟨rfl, rfl⟩, h4⟩
      replace h4 : St w0 F0 [_, _] _ _ := h4
      refine RJ.run ttok 2 rfl ?_
      rcases Bool.eq_false_or_eq_true r2 with c3 | c3
      · replace H := ite_t c3 H
        refine RJ.know (t := 24) rfl (congrArg Value.bool c3) ?_
        refine RJ.run ttok 1 rfl ?_
        refine RJ.q rfl rfl (q_load_box ttok 1 h4.wht rfl rfl rfl rfl rfl) ?_
        refine RJ.run ttok 1 rfl ?_
        refine RJ.q rfl rfl (q_load_box ttok 0 h4.wht rfl rfl rfl rfl rfl) ?_
        obtain ⟨r3, q3, H⟩ := bind_t H
        refine RJ.op rfl rfl (op_call [] (buf_Same.spec q3) rfl rfl rfl h4 rfl (gcons (Gives.self 4 rfl) (gcons (Gives.self 8 rfl) gnil))) ?_
        rintro _ w5 ⟨_, ⟨rfl, rfl⟩, h5⟩
        replace h5 : St w0 F0 [_, _] _ _ := h5
        refine RJ.run ttok 2 rfl ?_
        rcases Bool.eq_false_or_eq_true r3 with c4 | c4
        · replace H := ite_t c4 H
          refine RJ.know (t := 31) rfl (congrArg Value.bool c4) ?_
          refine RJ.run ttok 1 rfl ?_
          refine RJ.q rfl rfl (q_load_box ttok 1 h5.wht rfl rfl rfl rfl rfl) ?_
          refine RJ.run ttok 1 rfl ?_
          refine RJ.q rfl rfl (q_load_box ttok 0 h5.wht rfl rfl rfl rfl rfl) ?_
          obtain ⟨r4, q4, H⟩ := bind_t H
          refine RJ.op rfl rfl (op_call [] (leaf_Same.spec q4) rfl rfl rfl h5 rfl (gcons (Gives.self 5 rfl) (gcons (Gives.self 9 rfl) gnil))) ?_
          rintro _ w6 ⟨_, ⟨rfl, rfl⟩, h6⟩
          replace h6 : St w0 F0 [_, _] _ _ := h6
          refine RJ.run ttok 2 rfl ?_
          refine RJ.fin [(4, .bool r4)] rfl ?_
          have h7 := h6.only [] rfl
          replace h7 : St w0 F0 [] _ _ := h7
          refine J.ret ?_
          obtain rfl := Option.some.inj H
          exact ⟨_, _, _, (results_slots rfl), ⟨rfl, rfl⟩, h7.only [] rfl⟩
        replace H := ite_f c4 H
        refine RJ.know (t := 31) rfl (congrArg Value.bool c4) ?_
        refine RJ.run ttok 7 rfl ?_
        refine RJ.fin [(4, .bool false)] rfl ?_
        have h8 := h5.only [] rfl
        replace h8 : St w0 F0 [] _ _ := h8
        refine J.ret ?_
        obtain rfl := Option.some.inj H
        exact ⟨_, _, _, (results_slots rfl), ⟨rfl, rfl⟩, h8.only [] rfl⟩
      replace H := ite_f c3 H
      refine RJ.know (t := 24) rfl (congrArg Value.bool c3) ?_
      refine RJ.run ttok 14 rfl ?_
      refine RJ.fin [(4, .bool false)] rfl ?_
      have h9 := h4.only [] rfl
      replace h9 : St w0 F0 [] _ _ := h9
      refine J.ret ?_
      obtain rfl := Option.some.inj H
      exact ⟨_, _, _, (results_slots rfl), ⟨rfl, rfl⟩, h9.only [] rfl⟩
    replace H := ite_f c2 H
    refine RJ.know (t := 17) rfl (congrArg Value.bool c2) ?_
    refine RJ.run ttok 21 rfl ?_
    refine RJ.fin [(4, .bool false)] rfl ?_
    have h10 := h3.only [] rfl
    replace h10 : St w0 F0 [] _ _ := h10
    refine J.ret ?_
    obtain rfl := Option.some.inj H
    exact ⟨_, _, _, (results_slots rfl), ⟨rfl, rfl⟩, h10.only [] rfl⟩
  replace H := ite_f c1 H
  refine RJ.know (t := 10) rfl (congrArg Value.bool c1) ?_
  refine RJ.run ttok 28 rfl ?_
  refine RJ.fin [(4, .bool false)] rfl ?_
  have h11 := h2.only [] rfl
  replace h11 : St w0 F0 [] _ _ := h11
  refine J.ret ?_
  obtain rfl := Option.some.inj H
  exact ⟨_, _, _, (results_slots rfl), ⟨rfl, rfl⟩, h11.only [] rfl⟩

/-! sluicegate/sluicegatelaw13.awake -/
def sluicegatelaw13_awake.f (k : Nat)  : Option (Bool) := (node_Loads.f k (1, ([4, 7] : List (Int)), ([([98] : List UInt8)] : List (List UInt8)), ([(([97] : List UInt8), false, ([] : List UInt8)), (([98] : List UInt8), false, ([] : List UInt8)), (([99] : List UInt8), false, ([] : List UInt8))] : List (List UInt8 × Bool × List UInt8)), ([] : List (List UInt8 × List UInt8)))).bind fun r1 => ((node_Rank.f k (1, ([4, 7] : List (Int)), ([([98] : List UInt8)] : List (List UInt8)), ([(([97] : List UInt8), false, ([] : List UInt8)), (([98] : List UInt8), false, ([] : List UInt8)), (([99] : List UInt8), false, ([] : List UInt8))] : List (List UInt8 × Bool × List UInt8)), ([] : List (List UInt8 × List UInt8)))).bind fun r2 => ((node_Heaviest.f k (1, ([4, 7] : List (Int)), ([([98] : List UInt8)] : List (List UInt8)), ([(([97] : List UInt8), false, ([] : List UInt8)), (([98] : List UInt8), false, ([] : List UInt8)), (([99] : List UInt8), false, ([] : List UInt8))] : List (List UInt8 × Bool × List UInt8)), ([] : List (List UInt8 × List UInt8)))).bind fun r3 => (if (decide ((r1.length : Int) = 2)) = true then (if 0 < (r1.length : Int) then (if (decide ((gt r1 0) = 1)) = true then (if 1 < (r1.length : Int) then (if (decide ((gt r1 1) = 2)) = true then (if (decide ((r2.length : Int) = 2)) = true then (if 0 < (r2.length : Int) then (if (decide ((gt r2 0) = 1)) = true then (if (decide (r3.1 = 1)) = true then (if (decide (r3.2 = 2)) = true then ((node_Clone.f (1, ([4, 7] : List (Int)), ([([98] : List UInt8)] : List (List UInt8)), ([(([97] : List UInt8), false, ([] : List UInt8)), (([98] : List UInt8), false, ([] : List UInt8)), (([99] : List UInt8), false, ([] : List UInt8))] : List (List UInt8 × Bool × List UInt8)), ([] : List (List UInt8 × List UInt8)))).bind fun r4 => ((node_Same.f k (1, ([4, 7] : List (Int)), ([([98] : List UInt8)] : List (List UInt8)), ([(([97] : List UInt8), false, ([] : List UInt8)), (([98] : List UInt8), false, ([] : List UInt8)), (([99] : List UInt8), false, ([] : List UInt8))] : List (List UInt8 × Bool × List UInt8)), ([] : List (List UInt8 × List UInt8))) (r4.1, r4.2.1, r4.2.2.1, r4.2.2.2.1, r4.2.2.2.2)).bind fun r5 => (some r5))) else (some false)) else (some false)) else (some false)) else none) else (some false)) else (some false)) else none) else (some false)) else none) else (some false))))
set_option maxRecDepth 20000 in
set_option maxHeartbeats 40000000 in
theorem sluicegatelaw13_awake.spec {k : Nat}   {r : Bool} (H : sluicegatelaw13_awake.f k  = some r) :
    Spec Try.prog 29 [] [] [] (fun v l => v = .bool r ∧ l = []) := by
  refine Spec.enter Try.func29 rfl (by kernel_rfl) (by kernel_rfl) fun w0 F0 h0 => ?_
  unfold sluicegatelaw13_awake.f at H
  refine J.seq (J.region ?_)
  refine RJ.run ttok 1 rfl ?_
  refine RJ.fin [] rfl ?_
  refine J.seq (J.region ?_)
  refine RJ.op rfl rfl (op_lit ttok (.int .u32) rfl ([4, 7] : List (Int)) rfl h0 rfl rfl (by decide) rfl rfl rfl rfl rfl rfl rfl) ?_
  rintro _ w1 ⟨b1, rfl, h1⟩
  replace h1 : St w0 F0 [ownC 46 (.int .u32) ([4, 7] : List (Int)) (.slice (some ⟨b1, 0, none⟩) ([4, 7] : List (Int)).length 2)] _ _ := h1
  refine RJ.op rfl rfl (op_lit ttok .str rfl ([([98] : List UInt8)] : List (List UInt8)) rfl h1 rfl rfl (by decide) rfl rfl rfl rfl rfl rfl rfl) ?_
  rintro _ w2 ⟨b2, rfl, h2⟩
  replace h2 : St w0 F0 [ownC 9 .str ([([98] : List UInt8)] : List (List UInt8)) (.slice (some ⟨b2, 0, none⟩) ([([98] : List UInt8)] : List (List UInt8)).length 1), _] _ _ := h2
  refine RJ.run ttok 3 rfl ?_
  refine RJ.op rfl rfl (op_lit ttok (.pair .str (.pair .bool .str)) rfl ([(([97] : List UInt8), false, ([] : List UInt8)), (([98] : List UInt8), false, ([] : List UInt8)), (([99] : List UInt8), false, ([] : List UInt8))] : List (List UInt8 × Bool × List UInt8)) rfl h2 rfl rfl (by decide) rfl rfl rfl rfl rfl rfl rfl) ?_
  rintro _ w3 ⟨b3, rfl, h3⟩
  replace h3 : St w0 F0 [ownC 48 (.pair .str (.pair .bool .str)) ([(([97] : List UInt8), false, ([] : List UInt8)), (([98] : List UInt8), false, ([] : List UInt8)), (([99] : List UInt8), false, ([] : List UInt8))] : List (List UInt8 × Bool × List UInt8)) (.slice (some ⟨b3, 0, none⟩) ([(([97] : List UInt8), false, ([] : List UInt8)), (([98] : List UInt8), false, ([] : List UInt8)), (([99] : List UInt8), false, ([] : List UInt8))] : List (List UInt8 × Bool × List UInt8)).length 3), _, _] _ _ := h3
  refine RJ.run ttok 1 rfl ?_
  refine RJ.op rfl rfl (op_alloc ttok rfl rfl h3) ?_
  rintro _ w4 ⟨b4, rfl, h4⟩
  replace h4 : St w0 F0 [boxC b4 31 [.int .i64 0, .slice none ([] : List (Int)).length 0, .slice none ([] : List (List UInt8)).length 0, .slice none ([] : List (List UInt8 × Bool × List UInt8)).length 0, .slice none ([] : List (List UInt8 × List UInt8)).length 0], _, _, _] _ _ := h4
  refine RJ.op rfl rfl (op_store ttok 0 rfl h4 rfl rfl rfl rfl rfl rfl rfl) ?_
  intro _ w5 h5
  replace h5 : St w0 F0 [boxC b4 31 [.int .i64 1, .slice (some ⟨b1, 0, none⟩) ([4, 7] : List (Int)).length 2, .slice (some ⟨b2, 0, none⟩) ([([98] : List UInt8)] : List (List UInt8)).length 1, .slice (some ⟨b3, 0, none⟩) ([(([97] : List UInt8), false, ([] : List UInt8)), (([98] : List UInt8), false, ([] : List UInt8)), (([99] : List UInt8), false, ([] : List UInt8))] : List (List UInt8 × Bool × List UInt8)).length 3, .slice none ([] : List (List UInt8 × List UInt8)).length 0], _, _, _] _ _ := h5
  refine RJ.fin [(1, .pointer (some ⟨b4, 0, none⟩))] rfl ?_
  refine J.seq ?_
  refine J.heldSt mix h5 ?_
  have h6 := h5.drew
  refine HJ.q (i := 0) rfl rfl rfl rfl rfl rfl (q_load_box ttok 0 (fun w e => e) rfl rfl rfl rfl rfl) ?_
  refine HJ.q (i := 2) rfl rfl rfl rfl rfl rfl (q_load_box ttok 0 (fun w e => e) rfl rfl rfl rfl rfl) ?_
  have h7 := h6.addNil 50 (.pair .str .str)
  obtain ⟨r1, q1, H⟩ := bind_t H
  refine HJ.op (i := 1) rfl rfl rfl rfl rfl (op_call [] (node_Loads.spec q1) rfl rfl rfl h7 rfl (gcons (Gives.of 4 rfl own_rd) (gcons (Gives.of 3 rfl own_rd) (gcons (Gives.of 2 rfl own_rd) (gcons (Gives.of 0 rfl own_rd) gnil))))) ?_
  rintro _ w6 ⟨_, ⟨A1, c_1, rfl, rfl⟩, h8⟩
  replace h8 : St w0 F0 [ownC 3 (.int .i64) r1 (.slice A1 r1.length c_1), ownC 50 (.pair .str .str) ([] : List (List UInt8 × List UInt8)) (.slice none ([] : List (List UInt8 × List UInt8)).length 0), _, _, _, _] _ _ := h8
  refine ⟨⟨[_, _], h8⟩, ?_⟩
  obtain ⟨r2, q2, H⟩ := bind_t H
  refine HJ.op (i := 3) rfl rfl rfl rfl rfl (op_call [] (node_Rank.spec q2) rfl rfl rfl h8 rfl (gcons (Gives.of 5 rfl own_rd) (gcons (Gives.of 4 rfl own_rd) (gcons (Gives.of 3 rfl own_rd) (gcons (Gives.of 1 rfl own_rd) gnil))))) ?_
  rintro _ w7 ⟨_, ⟨A2, c_2, rfl, rfl⟩, h9⟩
  replace h9 : St w0 F0 [ownC 3 (.int .i64) r2 (.slice A2 r2.length c_2), _, _, _, _, _, _] _ _ := h9
  refine ⟨⟨[_, _, _], h9⟩, ?_⟩
  refine HJ.run ttok rfl [4, 5] rfl ?_
  refine HJ.fin [(1, _), (2, .slice A1 r1.length c_1), (3, .slice A2 r2.length c_2)] rfl rfl ?_
  refine J.seq (J.region ?_)
  refine RJ.q rfl rfl (q_load_box ttok 3 h9.wht rfl rfl rfl rfl rfl) ?_
  obtain ⟨r3, q3, H⟩ := bind_t H
  refine RJ.op rfl rfl (op_call [] (node_Heaviest.spec q3) rfl rfl rfl h9 rfl (gcons (Gives.of 6 rfl own_rd) (gcons (Gives.of 5 rfl own_rd) (gcons (Gives.of 4 rfl own_rd) (gcons (Gives.of 2 rfl own_rd) gnil))))) ?_
  rintro _ w8 ⟨_, ⟨rfl, rfl⟩, h10⟩
  replace h10 : St w0 F0 [_, _, _, _, _, _, _] _ _ := h10
  refine RJ.run ttok 5 rfl ?_
  refine RJ.fin [(1, _), (2, _), (3, _), (4, .int .i64 r3.1), (5, .int .i64 r3.2)] rfl ?_
  refine J.seq ?_
  refine J.heldSt mix h10 ?_
  have h11 := h10.drew
  refine HJ.run ttok rfl [0, 1, 2, 3] rfl ?_
  rcases Bool.eq_false_or_eq_true (decide ((r1.length : Int) = 2)) with c1 | c1
  · replace H := ite_t c1 H
    refine HJ.know (t := 25) rfl (congrArg Value.bool c1) ?_
    refine HJ.run ttok rfl [4] rfl ?_
    obtain ⟨p1, H⟩ := guard_t H
    have e1 := elem_A h11.wh (Gives.of 1 rfl own_rd) (by decide) p1
    refine HJ.q (i := 5) rfl rfl rfl rfl rfl rfl (q_index ttok rfl rfl rfl rfl rfl e1 (by decide) p1) ?_
    refine HJ.q (i := 6) rfl rfl rfl rfl rfl rfl (q_load_elem (f := 0) ttok rfl (fun w e => e) (Gives.of 1 rfl own_rd) (by decide) p1 rfl rfl rfl rfl rfl) ?_
    refine HJ.run ttok rfl [7, 8, 9] rfl ?_
    rcases Bool.eq_false_or_eq_true (decide ((gt r1 0) = 1)) with c2 | c2
    · replace H := ite_t c2 H
      refine HJ.know (t := 31) rfl (congrArg Value.bool c2) ?_
      refine HJ.run ttok rfl [10] rfl ?_
      obtain ⟨p2, H⟩ := guard_t H
      refine HJ.q (i := 11) rfl rfl rfl rfl rfl rfl (q_index ttok rfl rfl rfl rfl rfl e1 (by decide) p2) ?_
      refine HJ.q (i := 12) rfl rfl rfl rfl rfl rfl (q_load_elem (f := 0) ttok rfl (fun w e => e) (Gives.of 1 rfl own_rd) (by decide) p2 rfl rfl rfl rfl rfl) ?_
      refine HJ.run ttok rfl [13, 14, 15] rfl ?_
      rcases Bool.eq_false_or_eq_true (decide ((gt r1 1) = 2)) with c3 | c3
      · replace H := ite_t c3 H
        refine HJ.know (t := 37) rfl (congrArg Value.bool c3) ?_
        refine HJ.run ttok rfl [16, 17, 18, 19, 20] rfl ?_
        rcases Bool.eq_false_or_eq_true (decide ((r2.length : Int) = 2)) with c4 | c4
        · replace H := ite_t c4 H
          refine HJ.know (t := 42) rfl (congrArg Value.bool c4) ?_
          refine HJ.run ttok rfl [21] rfl ?_
          obtain ⟨p3, H⟩ := guard_t H
          have e2 := elem_A h11.wh (Gives.of 0 rfl own_rd) (by decide) p3
          refine HJ.q (i := 22) rfl rfl rfl rfl rfl rfl (q_index ttok rfl rfl rfl rfl rfl e2 (by decide) p3) ?_
          refine HJ.q (i := 23) rfl rfl rfl rfl rfl rfl (q_load_elem (f := 0) ttok rfl (fun w e => e) (Gives.of 0 rfl own_rd) (by decide) p3 rfl rfl rfl rfl rfl) ?_
          refine HJ.run ttok rfl [24, 25, 26] rfl ?_
          rcases Bool.eq_false_or_eq_true (decide ((gt r2 0) = 1)) with c5 | c5
          · replace H := ite_t c5 H
            refine HJ.know (t := 48) rfl (congrArg Value.bool c5) ?_
            refine HJ.run ttok rfl [27, 28, 29, 30] rfl ?_
            rcases Bool.eq_false_or_eq_true (decide (r3.1 = 1)) with c6 | c6
            · replace H := ite_t c6 H
              refine HJ.know (t := 52) rfl (congrArg Value.bool c6) ?_
              refine HJ.run ttok rfl [31, 32, 33, 34] rfl ?_
              rcases Bool.eq_false_or_eq_true (decide (r3.2 = 2)) with c7 | c7
              · replace H := ite_t c7 H
                refine HJ.know (t := 56) rfl (congrArg Value.bool c7) ?_
                refine HJ.q (i := 35) rfl rfl rfl rfl rfl rfl (q_load_box ttok 3 (fun w e => e) rfl rfl rfl rfl rfl) ?_
                refine HJ.q (i := 36) rfl rfl rfl rfl rfl rfl (q_load_box ttok 3 (fun w e => e) rfl rfl rfl rfl rfl) ?_
                obtain ⟨r4, q4, H⟩ := bind_t H
                refine HJ.op (i := 37) rfl rfl rfl rfl rfl (op_call [] (node_Clone.spec q4) rfl rfl rfl h11 rfl (gcons (Gives.of 6 rfl own_rd) (gcons (Gives.of 5 rfl own_rd) (gcons (Gives.of 4 rfl own_rd) (gcons (Gives.of 2 rfl own_rd) gnil))))) ?_
                rintro _ w9 ⟨_, ⟨A3, c_3, A4, c_4, A5, c_5, A6, c_6, rfl, rfl⟩, h12⟩
                replace h12 : St w0 F0 [ownC 46 (.int .u32) r4.2.1 (.slice A3 r4.2.1.length c_3), ownC 9 .str r4.2.2.1 (.slice A4 r4.2.2.1.length c_4), ownC 48 (.pair .str (.pair .bool .str)) r4.2.2.2.1 (.slice A5 r4.2.2.2.1.length c_5), ownC 50 (.pair .str .str) r4.2.2.2.2 (.slice A6 r4.2.2.2.2.length c_6), _, _, _, _, _, _, _] _ _ := h12
                refine ⟨⟨[_, _, _, _], h12⟩, ?_⟩
                obtain ⟨r5, q5, H⟩ := bind_t H
                refine HJ.op (i := 38) rfl rfl rfl rfl rfl (op_call [] (node_Same.spec q5) rfl rfl rfl h12 rfl (gcons (Gives.of 10 rfl own_rd) (gcons (Gives.of 9 rfl own_rd) (gcons (Gives.of 8 rfl own_rd) (gcons (Gives.of 6 rfl own_rd) (gcons (Gives.of 0 rfl own_rd) (gcons (Gives.of 1 rfl own_rd) (gcons (Gives.of 2 rfl own_rd) (gcons (Gives.of 3 rfl own_rd) gnil))))))))) ?_
                rintro _ w10 ⟨_, ⟨rfl, rfl⟩, h13⟩
                replace h13 : St w0 F0 [_, _, _, _, _, _, _, _, _, _, _] _ _ := h13
                refine ⟨⟨[_, _, _, _], h13⟩, ?_⟩
                refine HJ.run ttok rfl [39, 40] rfl ?_
                refine HJ.fin [(0, .bool r5)] rfl rfl ?_
                have h14 := h13.only [] rfl
                replace h14 : St w0 F0 [] _ _ := h14
                refine J.ret ?_
                obtain rfl := Option.some.inj H
                exact ⟨_, _, _, (results_slots rfl), ⟨rfl, rfl⟩, h14.only [] rfl⟩
              replace H := ite_f c7 H
              refine HJ.know (t := 56) rfl (congrArg Value.bool c7) ?_
              refine HJ.run ttok rfl [35, 36, 37, 38, 39, 40] rfl ?_
              refine HJ.fin [(0, .bool false)] rfl rfl ?_
              have h15 := h11.only [] rfl
              replace h15 : St w0 F0 [] _ _ := h15
              refine J.ret ?_
              obtain rfl := Option.some.inj H
              exact ⟨_, _, _, (results_slots rfl), ⟨rfl, rfl⟩, h15.only [] rfl⟩
            replace H := ite_f c6 H
            refine HJ.know (t := 52) rfl (congrArg Value.bool c6) ?_
            refine HJ.run ttok rfl [31, 32, 33, 34, 35, 36, 37, 38, 39, 40] rfl ?_
            refine HJ.fin [(0, .bool false)] rfl rfl ?_
            have h16 := h11.only [] rfl
            replace h16 : St w0 F0 [] _ _ := h16
            refine J.ret ?_
            obtain rfl := Option.some.inj H
            exact ⟨_, _, _, (results_slots rfl), ⟨rfl, rfl⟩, h16.only [] rfl⟩
          replace H := ite_f c5 H
          refine HJ.know (t := 48) rfl (congrArg Value.bool c5) ?_
          refine HJ.run ttok rfl [27, 28, 29, 30, 31, 32, 33, 34, 35, 36, 37, 38, 39, 40] rfl ?_
          refine HJ.fin [(0, .bool false)] rfl rfl ?_
          have h17 := h11.only [] rfl
          replace h17 : St w0 F0 [] _ _ := h17
          refine J.ret ?_
          obtain rfl := Option.some.inj H
          exact ⟨_, _, _, (results_slots rfl), ⟨rfl, rfl⟩, h17.only [] rfl⟩
        replace H := ite_f c4 H
        refine HJ.know (t := 42) rfl (congrArg Value.bool c4) ?_
        refine HJ.run ttok rfl [21, 22, 23, 24, 25, 26, 27, 28, 29, 30, 31, 32, 33, 34, 35, 36, 37, 38, 39, 40] rfl ?_
        refine HJ.fin [(0, .bool false)] rfl rfl ?_
        have h18 := h11.only [] rfl
        replace h18 : St w0 F0 [] _ _ := h18
        refine J.ret ?_
        obtain rfl := Option.some.inj H
        exact ⟨_, _, _, (results_slots rfl), ⟨rfl, rfl⟩, h18.only [] rfl⟩
      replace H := ite_f c3 H
      refine HJ.know (t := 37) rfl (congrArg Value.bool c3) ?_
      refine HJ.run ttok rfl [16, 17, 18, 19, 20, 21, 22, 23, 24, 25, 26, 27, 28, 29, 30, 31, 32, 33, 34, 35, 36, 37, 38, 39, 40] rfl ?_
      refine HJ.fin [(0, .bool false)] rfl rfl ?_
      have h19 := h11.only [] rfl
      replace h19 : St w0 F0 [] _ _ := h19
      refine J.ret ?_
      obtain rfl := Option.some.inj H
      exact ⟨_, _, _, (results_slots rfl), ⟨rfl, rfl⟩, h19.only [] rfl⟩
    replace H := ite_f c2 H
    refine HJ.know (t := 31) rfl (congrArg Value.bool c2) ?_
    refine HJ.run ttok rfl [10, 11, 12, 13, 14, 15, 16, 17, 18, 19, 20, 21, 22, 23, 24, 25, 26, 27, 28, 29, 30, 31, 32, 33, 34, 35, 36, 37, 38, 39, 40] rfl ?_
    refine HJ.fin [(0, .bool false)] rfl rfl ?_
    have h20 := h11.only [] rfl
    replace h20 : St w0 F0 [] _ _ := h20
    refine J.ret ?_
    obtain rfl := Option.some.inj H
    exact ⟨_, _, _, (results_slots rfl), ⟨rfl, rfl⟩, h20.only [] rfl⟩
  replace H := ite_f c1 H
  refine HJ.know (t := 25) rfl (congrArg Value.bool c1) ?_
  refine HJ.run ttok rfl [4, 5, 6, 7, 8, 9, 10, 11, 12, 13, 14, 15, 16, 17, 18, 19, 20, 21, 22, 23, 24, 25, 26, 27, 28, 29, 30, 31, 32, 33, 34, 35, 36, 37, 38, 39, 40] rfl ?_
  refine HJ.fin [(0, .bool false)] rfl rfl ?_
  have h21 := h11.only [] rfl
  replace h21 : St w0 F0 [] _ _ := h21
  refine J.ret ?_
  obtain rfl := Option.some.inj H
  exact ⟨_, _, _, (results_slots rfl), ⟨rfl, rfl⟩, h21.only [] rfl⟩

/-! sluicegate/leaf.Right -/
def leaf_Right.l0 : Nat → (List (List UInt8 × List UInt8)) → (Int) → Option (Bool)
  | 0, _, _ => none
  | k + 1, a0, x1 => if (decide (x1 < (w64 ((a0.length : Int) - 1)))) = true then (if 0 ≤ x1 ∧ x1 < (a0.length : Int) then (if 0 ≤ (w64 (x1 + 1)) ∧ (w64 (x1 + 1)) < (a0.length : Int) then ((lex_Compare.f ((gt a0 x1).1) ((gt a0 (w64 (x1 + 1))).1)).bind fun r1 => (if (decide (0 ≤ r1)) = true then (some false) else (leaf_Right.l0 k a0 (w64 (x1 + 1))))) else none) else none) else (some true)
def leaf_Right.f (k : Nat) (a0 : List (List UInt8 × List UInt8)) : Option (Bool) := leaf_Right.l0 k a0 0
set_option maxRecDepth 20000 in
set_option maxHeartbeats 40000000 in
theorem leaf_Right.spec {k : Nat} {a0 : List (List UInt8 × List UInt8)} {A1 : Option Addr} {c_1 : Nat} {r : Bool} (H : leaf_Right.f k a0 = some r) :
    Spec Try.prog 53 [.slice A1 a0.length c_1] [] [rdC 50 (.pair .str .str) a0 (.slice A1 a0.length c_1)] (fun v l => v = .bool r ∧ l = []) := by
  refine Spec.enter Try.func53 rfl (by kernel_rfl) (by kernel_rfl) fun w0 F0 h0 => ?_
  unfold leaf_Right.f at H
  refine J.seq (J.region ?_)
  refine RJ.run ttok 1 rfl ?_
  refine RJ.fin [(0, .slice A1 a0.length c_1)] rfl ?_
  refine J.seq (J.seq (J.region ?_))
  refine RJ.run ttok 4 rfl ?_
  refine RJ.fin [(0, _), (6, .int .i64 (w64 ((a0.length : Int) - 1))), (7, .int .i64 0)] rfl ?_
  refine J.block ?_
  have h5 := ((h0.only [] rfl).rds [0] rfl)
  refine J.loop (fun kk env w => ∃ (x1 : Int), env = [(0, .slice A1 a0.length c_1), (6, .int .i64 (w64 ((a0.length : Int) - 1))), (7, .int .i64 x1)] ∧ St w0 F0 [] [rdC 50 (.pair .str .str) a0 (.slice A1 a0.length c_1)] w ∧ leaf_Right.l0 kk a0 x1 = some r) (k := k) ⟨0, rfl, h5, H⟩ ?_
  rintro k1 env w1 ⟨x1, rfl, h1, H⟩
  cases k1 with
  | zero => exact nomatch (show none = some r from H)
  | succ k1 =>
    rw [leaf_Right.l0] at H
    refine J.seq (J.region ?_)
    refine RJ.run ttok 1 rfl ?_
    refine RJ.fin [(0, _), (6, _), (7, _), (8, .bool (decide (x1 < (w64 ((a0.length : Int) - 1)))))] rfl ?_
    refine J.seq ?_
    refine J.cond rfl (fun c1 => ?_) (fun c1 => ?_)
    · replace H := ite_t c1 H
      refine J.skip ?_
      refine J.seq (J.block (J.seq (J.region ?_)))
      refine RJ.run ttok 2 rfl ?_
      refine RJ.fin [(0, _), (3, .int .i64 x1), (6, _), (7, _)] rfl ?_
      refine J.seq ?_
      refine J.heldSt mix h1 ?_
      have h2 := h1.drew
      refine HJ.run ttok rfl [0, 1, 5, 6, 7] rfl ?_
      obtain ⟨⟨p1, p2⟩, H⟩ := guard_t H
      have e1 := elem_A h2.wh (Gives.self 0 rfl) p1 p2
      refine HJ.q (i := 2) rfl rfl rfl rfl rfl rfl (q_index ttok rfl rfl rfl rfl rfl e1 p1 p2) ?_
      refine HJ.run ttok rfl [3] rfl ?_
      refine HJ.q (i := 4) rfl rfl rfl rfl rfl rfl (q_load_elem (f := 0) ttok rfl (fun w e => e) (Gives.self 0 rfl) p1 p2 rfl rfl rfl rfl rfl) ?_
      obtain ⟨⟨p3, p4⟩, H⟩ := guard_t H
      refine HJ.q (i := 8) rfl rfl rfl rfl rfl rfl (q_index ttok rfl rfl rfl rfl rfl e1 p3 p4) ?_
      refine HJ.run ttok rfl [9] rfl ?_
      refine HJ.q (i := 10) rfl rfl rfl rfl rfl rfl (q_load_elem (f := 0) ttok rfl (fun w e => e) (Gives.self 0 rfl) p3 p4 rfl rfl rfl rfl rfl) ?_
      obtain ⟨r1, q1, H⟩ := bind_t H
      refine HJ.op (i := 11) rfl rfl rfl rfl rfl (op_call [] (lex_Compare.spec q1) rfl rfl rfl h2 rfl gnil) ?_
      rintro _ w2 ⟨_, ⟨rfl, rfl⟩, h3⟩
      replace h3 : St w0 F0 [] _ _ := h3
      refine ⟨⟨[], h3⟩, ?_⟩
      refine HJ.run ttok rfl [12] rfl ?_
      refine HJ.fin [(0, _), (6, _), (7, _), (22, .bool (decide (0 ≤ r1)))] rfl rfl ?_
      refine J.cond rfl (fun c2 => ?_) (fun c2 => ?_)
      · replace H := ite_t c2 H
        refine J.seq (J.region ?_)
        refine RJ.run ttok 1 rfl ?_
        refine RJ.fin [(2, .bool false)] rfl ?_
        refine J.ret ?_
        obtain rfl := Option.some.inj H
        exact ⟨_, _, _, (results_slots rfl), ⟨rfl, rfl⟩, h3.only [] rfl⟩
      replace H := ite_f c2 H
      refine J.skip ?_
      refine J.region ?_
      refine RJ.run ttok 2 rfl ?_
      refine RJ.fin [(0, _), (6, _), (7, .int .i64 (w64 (x1 + 1)))] rfl ?_
      have h4 := ((h3.only [] rfl).rds [0] rfl)
      exact ⟨k1, by omega, (w64 (x1 + 1)), rfl, h4, H⟩
    replace H := ite_f c1 H
    refine J.exit ?_
    refine J.seq (J.region ?_)
    refine RJ.run ttok 1 rfl ?_
    refine RJ.fin [(2, .bool true)] rfl ?_
    refine J.ret ?_
    obtain rfl := Option.some.inj H
    exact ⟨_, _, _, (results_slots rfl), ⟨rfl, rfl⟩, h1.only [] rfl⟩

/-! sluicegate/node.Key -/
def node_Key.f (a0 : Int × Int × Int × Int × Int × Int × Int × Int) (a1 : List UInt8) : Option (Bool) := if (decide (1 ≤ (a1.length : Int))) = true then (some (decide ((a1.length : Int) ≤ a0.2.2.2.2.2.2.1))) else (some false)
set_option maxRecDepth 20000 in
set_option maxHeartbeats 40000000 in
theorem node_Key.spec {a0 : Int × Int × Int × Int × Int × Int × Int × Int} {a1 : List UInt8}  {r : Bool} (H : node_Key.f a0 a1 = some r) :
    Spec Try.prog 56 [.agg #[.int .i64 a0.1, .int .i64 a0.2.1, .int .i64 a0.2.2.1, .int .i64 a0.2.2.2.1, .int .i64 a0.2.2.2.2.1, .int .i64 a0.2.2.2.2.2.1, .int .i64 a0.2.2.2.2.2.2.1, .int .i64 a0.2.2.2.2.2.2.2], .string ⟨⟨a1⟩⟩] [] [] (fun v l => v = .bool r ∧ l = []) := by
  refine Spec.enter Try.func56 rfl (by kernel_rfl) (by kernel_rfl) fun w0 F0 h0 => ?_
  unfold node_Key.f at H
  refine J.seq (J.region ?_)
  refine RJ.op rfl rfl (op_box rfl rfl h0) ?_
  rintro _ w1 ⟨b1, rfl, h1⟩
  replace h1 : St w0 F0 [boxC b1 23 [.int .i64 a0.1, .int .i64 a0.2.1, .int .i64 a0.2.2.1, .int .i64 a0.2.2.2.1, .int .i64 a0.2.2.2.2.1, .int .i64 a0.2.2.2.2.2.1, .int .i64 a0.2.2.2.2.2.2.1, .int .i64 a0.2.2.2.2.2.2.2]] _ _ := h1
  refine RJ.run ttok 1 rfl ?_
  refine RJ.fin [(1, .string ⟨⟨a1⟩⟩), (2, .pointer (some ⟨b1, 0, none⟩))] rfl ?_
  refine J.seq (J.region ?_)
  refine RJ.run ttok 4 rfl ?_
  rcases Bool.eq_false_or_eq_true (decide (1 ≤ (a1.length : Int))) with c1 | c1
  · replace H := ite_t c1 H
    refine RJ.know (t := 8) rfl (congrArg Value.bool c1) ?_
    refine RJ.run ttok 3 rfl ?_
    refine RJ.q rfl rfl (q_load_box ttok 0 h1.wht rfl rfl rfl rfl rfl) ?_
    refine RJ.run ttok 3 rfl ?_
    refine RJ.fin [(4, .bool (decide ((a1.length : Int) ≤ a0.2.2.2.2.2.2.1)))] rfl ?_
    refine J.ret ?_
    obtain rfl := Option.some.inj H
    exact ⟨_, _, _, (results_slots rfl), ⟨rfl, rfl⟩, h1.only [] rfl⟩
  replace H := ite_f c1 H
  refine RJ.know (t := 8) rfl (congrArg Value.bool c1) ?_
  refine RJ.run ttok 7 rfl ?_
  refine RJ.fin [(4, .bool false)] rfl ?_
  refine J.ret ?_
  obtain rfl := Option.some.inj H
  exact ⟨_, _, _, (results_slots rfl), ⟨rfl, rfl⟩, h1.only [] rfl⟩

/-! sluicegate/lex.In -/
def lex_In.f (a0 : List UInt8 × List UInt8 × Bool) (a1 : List UInt8) : Option (Bool) := if (!Op.bytesLess a1 a0.1) = true then (if a0.2.2 = true then (some true) else (some (Op.bytesLess a1 a0.2.1))) else (some false)
set_option maxRecDepth 20000 in
set_option maxHeartbeats 40000000 in
theorem lex_In.spec {a0 : List UInt8 × List UInt8 × Bool} {a1 : List UInt8}  {r : Bool} (H : lex_In.f a0 a1 = some r) :
    Spec Try.prog 107 [.agg #[.string ⟨⟨a0.1⟩⟩, .string ⟨⟨a0.2.1⟩⟩, .bool a0.2.2], .string ⟨⟨a1⟩⟩] [] [] (fun v l => v = .bool r ∧ l = []) := by
  refine Spec.enter Try.func107 rfl (by kernel_rfl) (by kernel_rfl) fun w0 F0 h0 => ?_
  unfold lex_In.f at H
  refine J.seq (J.region ?_)
  refine RJ.op rfl rfl (op_box rfl rfl h0) ?_
  rintro _ w1 ⟨b1, rfl, h1⟩
  replace h1 : St w0 F0 [boxC b1 25 [.string ⟨⟨a0.1⟩⟩, .string ⟨⟨a0.2.1⟩⟩, .bool a0.2.2]] _ _ := h1
  refine RJ.run ttok 1 rfl ?_
  refine RJ.fin [(1, .string ⟨⟨a1⟩⟩), (2, .pointer (some ⟨b1, 0, none⟩))] rfl ?_
  refine J.seq (J.region ?_)
  refine RJ.run ttok 2 rfl ?_
  refine RJ.q rfl rfl (q_load_box ttok 0 h1.wht rfl rfl rfl rfl rfl) ?_
  refine RJ.run ttok 2 rfl ?_
  rcases Bool.eq_false_or_eq_true (!Op.bytesLess a1 a0.1) with c1 | c1
  · replace H := ite_t c1 H
    refine RJ.know (t := 9) rfl (congrArg Value.bool c1) ?_
    refine RJ.run ttok 1 rfl ?_
    refine RJ.q rfl rfl (q_load_box ttok 0 h1.wht rfl rfl rfl rfl rfl) ?_
    refine RJ.run ttok 1 rfl ?_
    rcases Bool.eq_false_or_eq_true a0.2.2 with c2 | c2
    · replace H := ite_t c2 H
      refine RJ.know (t := 12) rfl (congrArg Value.bool c2) ?_
      refine RJ.run ttok 7 rfl ?_
      refine RJ.fin [(4, .bool true)] rfl ?_
      refine J.ret ?_
      obtain rfl := Option.some.inj H
      exact ⟨_, _, _, (results_slots rfl), ⟨rfl, rfl⟩, h1.only [] rfl⟩
    replace H := ite_f c2 H
    refine RJ.know (t := 12) rfl (congrArg Value.bool c2) ?_
    refine RJ.run ttok 2 rfl ?_
    refine RJ.q rfl rfl (q_load_box ttok 0 h1.wht rfl rfl rfl rfl rfl) ?_
    refine RJ.run ttok 4 rfl ?_
    refine RJ.fin [(4, .bool (Op.bytesLess a1 a0.2.1))] rfl ?_
    refine J.ret ?_
    obtain rfl := Option.some.inj H
    exact ⟨_, _, _, (results_slots rfl), ⟨rfl, rfl⟩, h1.only [] rfl⟩
  replace H := ite_f c1 H
  refine RJ.know (t := 9) rfl (congrArg Value.bool c1) ?_
  refine RJ.run ttok 10 rfl ?_
  refine RJ.fin [(4, .bool false)] rfl ?_
  refine J.ret ?_
  obtain rfl := Option.some.inj H
  exact ⟨_, _, _, (results_slots rfl), ⟨rfl, rfl⟩, h1.only [] rfl⟩

/-! sluicegate/node.outer$1 -/
def node_outer_1.f (a0 : List UInt8 × List UInt8) (a1 : Int × Int × Int × Int × Int × Int × Int × Int) (a2 : List UInt8 × List UInt8 × Bool) : Option (Bool) := (node_Key.f (a1.1, a1.2.1, a1.2.2.1, a1.2.2.2.1, a1.2.2.2.2.1, a1.2.2.2.2.2.1, a1.2.2.2.2.2.2.1, a1.2.2.2.2.2.2.2) a0.1).bind fun r1 => (if (!r1) = true then (some true) else ((lex_In.f (a2.1, a2.2.1, a2.2.2) a0.1).bind fun r2 => (if (!r2) = true then (some true) else (some (decide (a1.2.2.2.2.2.2.2 < (a0.2.length : Int)))))))
set_option maxRecDepth 20000 in
set_option maxHeartbeats 40000000 in
theorem node_outer_1.spec {a0 : List UInt8 × List UInt8} {a1 : Int × Int × Int × Int × Int × Int × Int × Int} {a2 : List UInt8 × List UInt8 × Bool} {b1 : Nat} {b2 : Nat} {r : Bool} (H : node_outer_1.f a0 a1 a2 = some r) :
    Spec Try.prog 106 [.agg #[.string ⟨⟨a0.1⟩⟩, .string ⟨⟨a0.2⟩⟩], .pointer (some ⟨b1, 0, none⟩), .pointer (some ⟨b2, 0, none⟩)] [boxC b1 23 [.int .i64 a1.1, .int .i64 a1.2.1, .int .i64 a1.2.2.1, .int .i64 a1.2.2.2.1, .int .i64 a1.2.2.2.2.1, .int .i64 a1.2.2.2.2.2.1, .int .i64 a1.2.2.2.2.2.2.1, .int .i64 a1.2.2.2.2.2.2.2], boxC b2 25 [.string ⟨⟨a2.1⟩⟩, .string ⟨⟨a2.2.1⟩⟩, .bool a2.2.2]] [] (fun v l => v = .bool r ∧ l = [boxC b1 23 [.int .i64 a1.1, .int .i64 a1.2.1, .int .i64 a1.2.2.1, .int .i64 a1.2.2.2.1, .int .i64 a1.2.2.2.2.1, .int .i64 a1.2.2.2.2.2.1, .int .i64 a1.2.2.2.2.2.2.1, .int .i64 a1.2.2.2.2.2.2.2], boxC b2 25 [.string ⟨⟨a2.1⟩⟩, .string ⟨⟨a2.2.1⟩⟩, .bool a2.2.2]]) := by
  refine Spec.enter Try.func106 rfl (by kernel_rfl) (by kernel_rfl) fun w0 F0 h0 => ?_
  unfold node_outer_1.f at H
  refine J.seq (J.region ?_)
  refine RJ.op rfl rfl (op_box rfl rfl h0) ?_
  rintro _ w1 ⟨b3, rfl, h1⟩
  replace h1 : St w0 F0 [boxC b3 50 [.string ⟨⟨a0.1⟩⟩, .string ⟨⟨a0.2⟩⟩], boxC b1 23 [.int .i64 a1.1, .int .i64 a1.2.1, .int .i64 a1.2.2.1, .int .i64 a1.2.2.2.1, .int .i64 a1.2.2.2.2.1, .int .i64 a1.2.2.2.2.2.1, .int .i64 a1.2.2.2.2.2.2.1, .int .i64 a1.2.2.2.2.2.2.2], boxC b2 25 [.string ⟨⟨a2.1⟩⟩, .string ⟨⟨a2.2.1⟩⟩, .bool a2.2.2]] _ _ := h1
  refine RJ.run ttok 1 rfl ?_
  refine RJ.fin [(1, .pointer (some ⟨b1, 0, none⟩)), (2, .pointer (some ⟨b2, 0, none⟩)), (3, .pointer (some ⟨b3, 0, none⟩))] rfl ?_
  refine J.seq (J.region ?_)
  refine RJ.q rfl rfl (q_load_box ttok 1 h1.wht rfl rfl rfl rfl rfl) ?_
  refine RJ.run ttok 1 rfl ?_
  refine RJ.q rfl rfl (q_load_box ttok 0 h1.wht rfl rfl rfl rfl rfl) ?_
  obtain ⟨r1, q1, H⟩ := bind_t H
  refine RJ.op rfl rfl (op_call [] (node_Key.spec q1) rfl rfl rfl h1 rfl gnil) ?_
  rintro _ w2 ⟨_, ⟨rfl, rfl⟩, h2⟩
  replace h2 : St w0 F0 [_, _, _] _ _ := h2
  refine RJ.run ttok 2 rfl ?_
  rcases Bool.eq_false_or_eq_true (!r1) with c1 | c1
  · replace H := ite_t c1 H
    refine RJ.know (t := 10) rfl (congrArg Value.bool c1) ?_
    refine RJ.run ttok 15 rfl ?_
    refine RJ.fin [(4, .bool true)] rfl ?_
    refine J.ret ?_
    obtain rfl := Option.some.inj H
    exact ⟨_, _, _, (results_slots rfl), ⟨rfl, rfl⟩, h2.only [1, 1] rfl⟩
  replace H := ite_f c1 H
  refine RJ.know (t := 10) rfl (congrArg Value.bool c1) ?_
  refine RJ.q rfl rfl (q_load_box ttok 2 h2.wht rfl rfl rfl rfl rfl) ?_
  refine RJ.run ttok 1 rfl ?_
  refine RJ.q rfl rfl (q_load_box ttok 0 h2.wht rfl rfl rfl rfl rfl) ?_
  obtain ⟨r2, q2, H⟩ := bind_t H
  refine RJ.op rfl rfl (op_call [] (lex_In.spec q2) rfl rfl rfl h2 rfl gnil) ?_
  rintro _ w3 ⟨_, ⟨rfl, rfl⟩, h3⟩
  replace h3 : St w0 F0 [_, _, _] _ _ := h3
  refine RJ.run ttok 3 rfl ?_
  rcases Bool.eq_false_or_eq_true (!r2) with c2 | c2
  · replace H := ite_t c2 H
    refine RJ.know (t := 17) rfl (congrArg Value.bool c2) ?_
    refine RJ.run ttok 8 rfl ?_
    refine RJ.fin [(4, .bool true)] rfl ?_
    refine J.ret ?_
    obtain rfl := Option.some.inj H
    exact ⟨_, _, _, (results_slots rfl), ⟨rfl, rfl⟩, h3.only [1, 1] rfl⟩
  replace H := ite_f c2 H
  refine RJ.know (t := 17) rfl (congrArg Value.bool c2) ?_
  refine RJ.run ttok 1 rfl ?_
  refine RJ.q rfl rfl (q_load_box ttok 0 h3.wht rfl rfl rfl rfl rfl) ?_
  refine RJ.run ttok 2 rfl ?_
  refine RJ.q rfl rfl (q_load_box ttok 1 h3.wht rfl rfl rfl rfl rfl) ?_
  refine RJ.run ttok 3 rfl ?_
  refine RJ.fin [(4, .bool (decide (a1.2.2.2.2.2.2.2 < (a0.2.length : Int))))] rfl ?_
  refine J.ret ?_
  obtain rfl := Option.some.inj H
  exact ⟨_, _, _, (results_slots rfl), ⟨rfl, rfl⟩, h3.only [1, 1] rfl⟩

/-! slices.IndexFunc[[]sluicegate/api.Pair,sluicegate/api.Pair] -/
def slices_IndexFunc_api_Pair_api_Pair_node_outer_1.l0 : Nat → (List (List UInt8 × List UInt8)) → (Int × Int × Int × Int × Int × Int × Int × Int) → (List UInt8 × List UInt8 × Bool) → (Int) → Option (Int)
  | 0, _, _, _, _ => none
  | k + 1, a0, a2, a3, x1 => if (decide (x1 < (a0.length : Int))) = true then (if 0 ≤ x1 ∧ x1 < (a0.length : Int) then ((node_outer_1.f ((gt a0 x1).1, (gt a0 x1).2) (a2.1, a2.2.1, a2.2.2.1, a2.2.2.2.1, a2.2.2.2.2.1, a2.2.2.2.2.2.1, a2.2.2.2.2.2.2.1, a2.2.2.2.2.2.2.2) (a3.1, a3.2.1, a3.2.2)).bind fun r1 => (if r1 = true then (some x1) else (slices_IndexFunc_api_Pair_api_Pair_node_outer_1.l0 k a0 a2 a3 (w64 (x1 + 1))))) else none) else (some (-1))
def slices_IndexFunc_api_Pair_api_Pair_node_outer_1.f (k : Nat) (a0 : List (List UInt8 × List UInt8)) (a2 : Int × Int × Int × Int × Int × Int × Int × Int) (a3 : List UInt8 × List UInt8 × Bool) : Option (Int) := slices_IndexFunc_api_Pair_api_Pair_node_outer_1.l0 k a0 a2 a3 0
set_option maxRecDepth 20000 in
set_option maxHeartbeats 40000000 in
theorem slices_IndexFunc_api_Pair_api_Pair_node_outer_1.spec {k : Nat} {a0 : List (List UInt8 × List UInt8)} {a2 : Int × Int × Int × Int × Int × Int × Int × Int} {a3 : List UInt8 × List UInt8 × Bool} {A1 : Option Addr} {c_1 : Nat} {b1 : Nat} {b2 : Nat} {r : Int} (H : slices_IndexFunc_api_Pair_api_Pair_node_outer_1.f k a0 a2 a3 = some r) :
    Spec Try.prog 117 [.slice A1 a0.length c_1, .func (.func 106) #[] #[.pointer (some ⟨b1, 0, none⟩), .pointer (some ⟨b2, 0, none⟩)]] [boxC b1 23 [.int .i64 a2.1, .int .i64 a2.2.1, .int .i64 a2.2.2.1, .int .i64 a2.2.2.2.1, .int .i64 a2.2.2.2.2.1, .int .i64 a2.2.2.2.2.2.1, .int .i64 a2.2.2.2.2.2.2.1, .int .i64 a2.2.2.2.2.2.2.2], boxC b2 25 [.string ⟨⟨a3.1⟩⟩, .string ⟨⟨a3.2.1⟩⟩, .bool a3.2.2]] [rdC 50 (.pair .str .str) a0 (.slice A1 a0.length c_1)] (fun v l => v = .int .i64 r ∧ l = [boxC b1 23 [.int .i64 a2.1, .int .i64 a2.2.1, .int .i64 a2.2.2.1, .int .i64 a2.2.2.2.1, .int .i64 a2.2.2.2.2.1, .int .i64 a2.2.2.2.2.2.1, .int .i64 a2.2.2.2.2.2.2.1, .int .i64 a2.2.2.2.2.2.2.2], boxC b2 25 [.string ⟨⟨a3.1⟩⟩, .string ⟨⟨a3.2.1⟩⟩, .bool a3.2.2]]) := by
  refine Spec.enter Try.func117 rfl (by kernel_rfl) (by kernel_rfl) fun w0 F0 h0 => ?_
  unfold slices_IndexFunc_api_Pair_api_Pair_node_outer_1.f at H
  refine J.seq (J.region ?_)
  refine RJ.run ttok 1 rfl ?_
  refine RJ.fin [(0, .slice A1 a0.length c_1), (1, .func (.func 106) #[] #[.pointer (some ⟨b1, 0, none⟩), .pointer (some ⟨b2, 0, none⟩)])] rfl ?_
  refine J.seq (J.seq (J.region ?_))
  refine RJ.run ttok 3 rfl ?_
  refine RJ.fin [(0, _), (1, _), (7, .int .i64 (a0.length : Int)), (8, .int .i64 0)] rfl ?_
  refine J.block ?_
  have h4 := ((h0.only [0, 0] rfl).rds [0] rfl)
  refine J.loop (fun kk env w => ∃ (x1 : Int), env = [(0, .slice A1 a0.length c_1), (1, .func (.func 106) #[] #[.pointer (some ⟨b1, 0, none⟩), .pointer (some ⟨b2, 0, none⟩)]), (7, .int .i64 (a0.length : Int)), (8, .int .i64 x1)] ∧ St w0 F0 [boxC b1 23 [.int .i64 a2.1, .int .i64 a2.2.1, .int .i64 a2.2.2.1, .int .i64 a2.2.2.2.1, .int .i64 a2.2.2.2.2.1, .int .i64 a2.2.2.2.2.2.1, .int .i64 a2.2.2.2.2.2.2.1, .int .i64 a2.2.2.2.2.2.2.2], boxC b2 25 [.string ⟨⟨a3.1⟩⟩, .string ⟨⟨a3.2.1⟩⟩, .bool a3.2.2]] [rdC 50 (.pair .str .str) a0 (.slice A1 a0.length c_1)] w ∧ slices_IndexFunc_api_Pair_api_Pair_node_outer_1.l0 kk a0 a2 a3 x1 = some r) (k := k) ⟨0, rfl, h4, H⟩ ?_
  rintro k1 env w1 ⟨x1, rfl, h1, H⟩
  cases k1 with
  | zero => exact nomatch (show none = some r from H)
  | succ k1 =>
    rw [slices_IndexFunc_api_Pair_api_Pair_node_outer_1.l0] at H
    refine J.seq (J.region ?_)
    refine RJ.run ttok 1 rfl ?_
    refine RJ.fin [(0, _), (1, _), (7, _), (8, _), (9, .bool (decide (x1 < (a0.length : Int))))] rfl ?_
    refine J.seq ?_
    refine J.cond rfl (fun c1 => ?_) (fun c1 => ?_)
    · replace H := ite_t c1 H
      refine J.skip ?_
      refine J.seq (J.block (J.seq (J.region ?_)))
      refine RJ.run ttok 2 rfl ?_
      refine RJ.fin [(0, _), (1, _), (5, .int .i64 x1), (7, _), (8, _)] rfl ?_
      refine J.seq (J.region ?_)
      refine RJ.run ttok 3 rfl ?_
      obtain ⟨⟨p1, p2⟩, H⟩ := guard_t H
      have e1 := elem_A h1.wh (Gives.self 2 rfl) p1 p2
      refine RJ.q rfl rfl (q_index ttok rfl rfl rfl rfl rfl e1 p1 p2) ?_
      refine RJ.q rfl rfl (q_load_elem (f := 0) ttok rfl h1.wht (Gives.self 2 rfl) p1 p2 rfl rfl rfl rfl rfl) ?_
      obtain ⟨r1, q1, H⟩ := bind_t H
      refine RJ.op rfl rfl (op_callC (vs := [.agg #[.string ⟨⟨(gt a0 x1).1⟩⟩, .string ⟨⟨(gt a0 x1).2⟩⟩]]) (cs := [.pointer (some ⟨b1, 0, none⟩), .pointer (some ⟨b2, 0, none⟩)]) [0, 0] (node_outer_1.spec q1) rfl rfl rfl h1 rfl gnil) ?_
      rintro _ w2 ⟨_, ⟨rfl, rfl⟩, h2⟩
      replace h2 : St w0 F0 [_, _] _ _ := h2
      refine RJ.fin [(0, _), (1, _), (5, _), (7, _), (8, _), (16, .bool r1)] rfl ?_
      refine J.cond rfl (fun c2 => ?_) (fun c2 => ?_)
      · replace H := ite_t c2 H
        refine J.seq (J.region ?_)
        refine RJ.run ttok 2 rfl ?_
        refine RJ.fin [(4, .int .i64 x1)] rfl ?_
        refine J.ret ?_
        obtain rfl := Option.some.inj H
        exact ⟨_, _, _, (results_slots rfl), ⟨rfl, rfl⟩, h2.only [0, 0] rfl⟩
      replace H := ite_f c2 H
      refine J.skip ?_
      refine J.region ?_
      refine RJ.run ttok 2 rfl ?_
      refine RJ.fin [(0, _), (1, _), (7, _), (8, .int .i64 (w64 (x1 + 1)))] rfl ?_
      have h3 := ((h2.only [0, 0] rfl).rds [0] rfl)
      exact ⟨k1, by omega, (w64 (x1 + 1)), rfl, h3, H⟩
    replace H := ite_f c1 H
    refine J.exit ?_
    refine J.seq (J.region ?_)
    refine RJ.run ttok 1 rfl ?_
    refine RJ.fin [(4, .int .i64 (-1))] rfl ?_
    refine J.ret ?_
    obtain rfl := Option.some.inj H
    exact ⟨_, _, _, (results_slots rfl), ⟨rfl, rfl⟩, h1.only [0, 0] rfl⟩

/-! slices.ContainsFunc[[]sluicegate/api.Pair,sluicegate/api.Pair] -/
def slices_ContainsFunc_api_Pair_api_Pair_node_outer_1.f (k : Nat) (a0 : List (List UInt8 × List UInt8)) (a2 : Int × Int × Int × Int × Int × Int × Int × Int) (a3 : List UInt8 × List UInt8 × Bool) : Option (Bool) := (slices_IndexFunc_api_Pair_api_Pair_node_outer_1.f k a0 (a2.1, a2.2.1, a2.2.2.1, a2.2.2.2.1, a2.2.2.2.2.1, a2.2.2.2.2.2.1, a2.2.2.2.2.2.2.1, a2.2.2.2.2.2.2.2) (a3.1, a3.2.1, a3.2.2)).bind fun r1 => (some (decide (0 ≤ r1)))
set_option maxRecDepth 20000 in
set_option maxHeartbeats 40000000 in
theorem slices_ContainsFunc_api_Pair_api_Pair_node_outer_1.spec {k : Nat} {a0 : List (List UInt8 × List UInt8)} {a2 : Int × Int × Int × Int × Int × Int × Int × Int} {a3 : List UInt8 × List UInt8 × Bool} {A1 : Option Addr} {c_1 : Nat} {b1 : Nat} {b2 : Nat} {r : Bool} (H : slices_ContainsFunc_api_Pair_api_Pair_node_outer_1.f k a0 a2 a3 = some r) :
    Spec Try.prog 105 [.slice A1 a0.length c_1, .func (.func 106) #[] #[.pointer (some ⟨b1, 0, none⟩), .pointer (some ⟨b2, 0, none⟩)]] [boxC b1 23 [.int .i64 a2.1, .int .i64 a2.2.1, .int .i64 a2.2.2.1, .int .i64 a2.2.2.2.1, .int .i64 a2.2.2.2.2.1, .int .i64 a2.2.2.2.2.2.1, .int .i64 a2.2.2.2.2.2.2.1, .int .i64 a2.2.2.2.2.2.2.2], boxC b2 25 [.string ⟨⟨a3.1⟩⟩, .string ⟨⟨a3.2.1⟩⟩, .bool a3.2.2]] [rdC 50 (.pair .str .str) a0 (.slice A1 a0.length c_1)] (fun v l => v = .bool r ∧ l = [boxC b1 23 [.int .i64 a2.1, .int .i64 a2.2.1, .int .i64 a2.2.2.1, .int .i64 a2.2.2.2.1, .int .i64 a2.2.2.2.2.1, .int .i64 a2.2.2.2.2.2.1, .int .i64 a2.2.2.2.2.2.2.1, .int .i64 a2.2.2.2.2.2.2.2], boxC b2 25 [.string ⟨⟨a3.1⟩⟩, .string ⟨⟨a3.2.1⟩⟩, .bool a3.2.2]]) := by
  refine Spec.enter Try.func105 rfl (by kernel_rfl) (by kernel_rfl) fun w0 F0 h0 => ?_
  unfold slices_ContainsFunc_api_Pair_api_Pair_node_outer_1.f at H
  refine J.seq (J.region ?_)
  refine RJ.run ttok 1 rfl ?_
  refine RJ.fin [(0, .slice A1 a0.length c_1), (1, .func (.func 106) #[] #[.pointer (some ⟨b1, 0, none⟩), .pointer (some ⟨b2, 0, none⟩)])] rfl ?_
  refine J.seq (J.region ?_)
  refine RJ.run ttok 2 rfl ?_
  obtain ⟨r1, q1, H⟩ := bind_t H
  refine RJ.op rfl rfl (op_call [0, 0] (slices_IndexFunc_api_Pair_api_Pair_node_outer_1.spec q1) rfl rfl rfl h0 rfl (gcons (Gives.self 0 rfl) gnil)) ?_
  rintro _ w1 ⟨_, ⟨rfl, rfl⟩, h1⟩
  replace h1 : St w0 F0 [boxC b1 23 [.int .i64 a2.1, .int .i64 a2.2.1, .int .i64 a2.2.2.1, .int .i64 a2.2.2.2.1, .int .i64 a2.2.2.2.2.1, .int .i64 a2.2.2.2.2.2.1, .int .i64 a2.2.2.2.2.2.2.1, .int .i64 a2.2.2.2.2.2.2.2], boxC b2 25 [.string ⟨⟨a3.1⟩⟩, .string ⟨⟨a3.2.1⟩⟩, .bool a3.2.2]] _ _ := h1
  refine RJ.run ttok 2 rfl ?_
  refine RJ.fin [(4, .bool (decide (0 ≤ r1)))] rfl ?_
  refine J.ret ?_
  obtain rfl := Option.some.inj H
  exact ⟨_, _, _, (results_slots rfl), ⟨rfl, rfl⟩, h1.only [0, 0] rfl⟩

/-! sluicegate/node.outer -/
def node_outer.f (k : Nat) (a0 : Int × Int × Int × Int × Int × Int × Int × Int) (a1 : List UInt8 × List UInt8 × Bool) (a2 : Int × List (Int) × List (List UInt8) × (List (List UInt8 × Bool × List UInt8)) × (List (List UInt8 × List UInt8))) : Option (Bool) := if (decide (0 < (w64 ((w64 ((a2.2.1.length : Int) + (a2.2.2.1.length : Int))) + (a2.2.2.2.1.length : Int))))) = true then (some false) else (if (decide (a0.2.2.2.2.2.1 < (a2.2.2.2.2.length : Int))) = true then (some false) else ((leaf_Right.f k a2.2.2.2.2).bind fun r1 => (if (!r1) = true then (some false) else ((slices_ContainsFunc_api_Pair_api_Pair_node_outer_1.f k a2.2.2.2.2 (a0.1, a0.2.1, a0.2.2.1, a0.2.2.2.1, a0.2.2.2.2.1, a0.2.2.2.2.2.1, a0.2.2.2.2.2.2.1, a0.2.2.2.2.2.2.2) (a1.1, a1.2.1, a1.2.2)).bind fun r2 => (some (!r2))))))
set_option maxRecDepth 20000 in
set_option maxHeartbeats 40000000 in
theorem node_outer.spec {k : Nat} {a0 : Int × Int × Int × Int × Int × Int × Int × Int} {a1 : List UInt8 × List UInt8 × Bool} {a2 : Int × List (Int) × List (List UInt8) × (List (List UInt8 × Bool × List UInt8)) × (List (List UInt8 × List UInt8))} {A1 : Option Addr} {c_1 : Nat} {A2 : Option Addr} {c_2 : Nat} {A3 : Option Addr} {c_3 : Nat} {A4 : Option Addr} {c_4 : Nat} {r : Bool} (H : node_outer.f k a0 a1 a2 = some r) :
    Spec Try.prog 88 [.agg #[.int .i64 a0.1, .int .i64 a0.2.1, .int .i64 a0.2.2.1, .int .i64 a0.2.2.2.1, .int .i64 a0.2.2.2.2.1, .int .i64 a0.2.2.2.2.2.1, .int .i64 a0.2.2.2.2.2.2.1, .int .i64 a0.2.2.2.2.2.2.2], .agg #[.string ⟨⟨a1.1⟩⟩, .string ⟨⟨a1.2.1⟩⟩, .bool a1.2.2], .agg #[.int .i64 a2.1, .slice A1 a2.2.1.length c_1, .slice A2 a2.2.2.1.length c_2, .slice A3 a2.2.2.2.1.length c_3, .slice A4 a2.2.2.2.2.length c_4]] [] [rdC 46 (.int .u32) a2.2.1 (.slice A1 a2.2.1.length c_1), rdC 9 .str a2.2.2.1 (.slice A2 a2.2.2.1.length c_2), rdC 48 (.pair .str (.pair .bool .str)) a2.2.2.2.1 (.slice A3 a2.2.2.2.1.length c_3), rdC 50 (.pair .str .str) a2.2.2.2.2 (.slice A4 a2.2.2.2.2.length c_4)] (fun v l => v = .bool r ∧ l = []) := by
  refine Spec.enter Try.func88 rfl (by kernel_rfl) (by kernel_rfl) fun w0 F0 h0 => ?_
  unfold node_outer.f at H
  refine J.seq (J.region ?_)
  refine RJ.op rfl rfl (op_box rfl rfl h0) ?_
  rintro _ w1 ⟨b1, rfl, h1⟩
  replace h1 : St w0 F0 [boxC b1 23 [.int .i64 a0.1, .int .i64 a0.2.1, .int .i64 a0.2.2.1, .int .i64 a0.2.2.2.1, .int .i64 a0.2.2.2.2.1, .int .i64 a0.2.2.2.2.2.1, .int .i64 a0.2.2.2.2.2.2.1, .int .i64 a0.2.2.2.2.2.2.2]] _ _ := h1
  refine RJ.op rfl rfl (op_box rfl rfl h1) ?_
  rintro _ w2 ⟨b2, rfl, h2⟩
  replace h2 : St w0 F0 [boxC b2 25 [.string ⟨⟨a1.1⟩⟩, .string ⟨⟨a1.2.1⟩⟩, .bool a1.2.2], _] _ _ := h2
  refine RJ.op rfl rfl (op_box rfl rfl h2) ?_
  rintro _ w3 ⟨b3, rfl, h3⟩
  replace h3 : St w0 F0 [boxC b3 31 [.int .i64 a2.1, .slice A1 a2.2.1.length c_1, .slice A2 a2.2.2.1.length c_2, .slice A3 a2.2.2.2.1.length c_3, .slice A4 a2.2.2.2.2.length c_4], _, _] _ _ := h3
  refine RJ.run ttok 1 rfl ?_
  refine RJ.fin [(3, .pointer (some ⟨b1, 0, none⟩)), (4, .pointer (some ⟨b2, 0, none⟩)), (5, .pointer (some ⟨b3, 0, none⟩))] rfl ?_
  refine J.seq (J.seq (J.region ?_))
  refine RJ.run ttok 1 rfl ?_
  refine RJ.q rfl rfl (q_load_box ttok 0 h3.wht rfl rfl rfl rfl rfl) ?_
  refine RJ.run ttok 2 rfl ?_
  refine RJ.q rfl rfl (q_load_box ttok 0 h3.wht rfl rfl rfl rfl rfl) ?_
  refine RJ.run ttok 3 rfl ?_
  refine RJ.q rfl rfl (q_load_box ttok 0 h3.wht rfl rfl rfl rfl rfl) ?_
  refine RJ.run ttok 4 rfl ?_
  rcases Bool.eq_false_or_eq_true (decide (0 < (w64 ((w64 ((a2.2.1.length : Int) + (a2.2.2.1.length : Int))) + (a2.2.2.2.1.length : Int))))) with c1 | c1
  · replace H := ite_t c1 H
    refine RJ.know (t := 19) rfl (congrArg Value.bool c1) ?_
    refine RJ.run ttok 13 rfl ?_
    refine RJ.fin [(3, _), (4, _), (5, _), (32, .bool true)] rfl ?_
    refine J.condT rfl ?_
    refine J.seq (J.region ?_)
    refine RJ.run ttok 1 rfl ?_
    refine RJ.fin [(6, .bool false)] rfl ?_
    have h4 := h3.only [] rfl
    replace h4 : St w0 F0 [] _ _ := h4
    refine J.ret ?_
    obtain rfl := Option.some.inj H
    exact ⟨_, _, _, (results_slots rfl), ⟨rfl, rfl⟩, h4.only [] rfl⟩
  replace H := ite_f c1 H
  refine RJ.know (t := 19) rfl (congrArg Value.bool c1) ?_
  refine RJ.run ttok 1 rfl ?_
  refine RJ.q rfl rfl (q_load_box ttok 0 h3.wht rfl rfl rfl rfl rfl) ?_
  refine RJ.run ttok 2 rfl ?_
  refine RJ.q rfl rfl (q_load_box ttok 2 h3.wht rfl rfl rfl rfl rfl) ?_
  refine RJ.run ttok 3 rfl ?_
  rcases Bool.eq_false_or_eq_true (decide (a0.2.2.2.2.2.1 < (a2.2.2.2.2.length : Int))) with c2 | c2
  · replace H := ite_t c2 H
    refine RJ.know (t := 27) rfl (congrArg Value.bool c2) ?_
    refine RJ.run ttok 5 rfl ?_
    refine RJ.fin [(3, _), (4, _), (5, _), (32, .bool true)] rfl ?_
    refine J.condT rfl ?_
    refine J.seq (J.region ?_)
    refine RJ.run ttok 1 rfl ?_
    refine RJ.fin [(6, .bool false)] rfl ?_
    have h5 := h3.only [] rfl
    replace h5 : St w0 F0 [] _ _ := h5
    refine J.ret ?_
    obtain rfl := Option.some.inj H
    exact ⟨_, _, _, (results_slots rfl), ⟨rfl, rfl⟩, h5.only [] rfl⟩
  replace H := ite_f c2 H
  refine RJ.know (t := 27) rfl (congrArg Value.bool c2) ?_
  refine RJ.run ttok 1 rfl ?_
  refine RJ.q rfl rfl (q_load_box ttok 0 h3.wht rfl rfl rfl rfl rfl) ?_
  obtain ⟨r1, q1, H⟩ := bind_t H
  refine RJ.op rfl rfl (op_call [] (leaf_Right.spec q1) rfl rfl rfl h3 rfl (gcons (Gives.self 6 rfl) gnil)) ?_
  rintro _ w4 ⟨_, ⟨rfl, rfl⟩, h6⟩
  replace h6 : St w0 F0 [_, _, _] _ _ := h6
  refine RJ.run ttok 2 rfl ?_
  refine RJ.fin [(3, _), (4, _), (5, _), (32, .bool (!r1))] rfl ?_
  refine J.cond rfl (fun c3 => ?_) (fun c3 => ?_)
  · replace H := ite_t c3 H
    refine J.seq (J.region ?_)
    refine RJ.run ttok 1 rfl ?_
    refine RJ.fin [(6, .bool false)] rfl ?_
    have h7 := h6.only [] rfl
    replace h7 : St w0 F0 [] _ _ := h7
    refine J.ret ?_
    obtain rfl := Option.some.inj H
    exact ⟨_, _, _, (results_slots rfl), ⟨rfl, rfl⟩, h7.only [] rfl⟩
  replace H := ite_f c3 H
  refine J.skip ?_
  refine J.seq (J.region ?_)
  refine RJ.run ttok 1 rfl ?_
  refine RJ.q rfl rfl (q_load_box ttok 0 h6.wht rfl rfl rfl rfl rfl) ?_
  refine RJ.run ttok 1 rfl ?_
  obtain ⟨r2, q2, H⟩ := bind_t H
  refine RJ.op rfl rfl (op_call [2, 1] (slices_ContainsFunc_api_Pair_api_Pair_node_outer_1.spec q2) rfl rfl rfl h6 rfl (gcons (Gives.self 4 rfl) gnil)) ?_
  rintro _ w5 ⟨_, ⟨rfl, rfl⟩, h8⟩
  replace h8 : St w0 F0 [_, _, _] _ _ := h8
  refine RJ.run ttok 2 rfl ?_
  refine RJ.fin [(6, .bool (!r2))] rfl ?_
  have h9 := h8.only [] rfl
  replace h9 : St w0 F0 [] _ _ := h9
  refine J.ret ?_
  obtain rfl := Option.some.inj H
  exact ⟨_, _, _, (results_slots rfl), ⟨rfl, rfl⟩, h9.only [] rfl⟩

/-! math/bits.Len64 -/
def bits_Len64.f (a0 : Int) : Option (Int) := if (decide (4294967296 ≤ a0)) = true then (if (decide (65536 ≤ (Int.fdiv a0 (2 ^ 32)))) = true then (if (decide (256 ≤ (Int.fdiv (Int.fdiv a0 (2 ^ 32)) (2 ^ 16)))) = true then (if 0 ≤ (IntKind.u8.wrap ((Int.fdiv (Int.fdiv (Int.fdiv a0 (2 ^ 32)) (2 ^ 16)) (2 ^ 8)))) ∧ (IntKind.u8.wrap ((Int.fdiv (Int.fdiv (Int.fdiv a0 (2 ^ 32)) (2 ^ 16)) (2 ^ 8)))) < (([0, 1, 2, 2, 3, 3, 3, 3, 4, 4, 4, 4, 4, 4, 4, 4, 5, 5, 5, 5, 5, 5, 5, 5, 5, 5, 5, 5, 5, 5, 5, 5, 6, 6, 6, 6, 6, 6, 6, 6, 6, 6, 6, 6, 6, 6, 6, 6, 6, 6, 6, 6, 6, 6, 6, 6, 6, 6, 6, 6, 6, 6, 6, 6, 7, 7, 7, 7, 7, 7, 7, 7, 7, 7, 7, 7, 7, 7, 7, 7, 7, 7, 7, 7, 7, 7, 7, 7, 7, 7, 7, 7, 7, 7, 7, 7, 7, 7, 7, 7, 7, 7, 7, 7, 7, 7, 7, 7, 7, 7, 7, 7, 7, 7, 7, 7, 7, 7, 7, 7, 7, 7, 7, 7, 7, 7, 7, 7, 8, 8, 8, 8, 8, 8, 8, 8, 8, 8, 8, 8, 8, 8, 8, 8, 8, 8, 8, 8, 8, 8, 8, 8, 8, 8, 8, 8, 8, 8, 8, 8, 8, 8, 8, 8, 8, 8, 8, 8, 8, 8, 8, 8, 8, 8, 8, 8, 8, 8, 8, 8, 8, 8, 8, 8, 8, 8, 8, 8, 8, 8, 8, 8, 8, 8, 8, 8, 8, 8, 8, 8, 8, 8, 8, 8, 8, 8, 8, 8, 8, 8, 8, 8, 8, 8, 8, 8, 8, 8, 8, 8, 8, 8, 8, 8, 8, 8, 8, 8, 8, 8, 8, 8, 8, 8, 8, 8, 8, 8, 8, 8, 8, 8, 8, 8, 8, 8, 8, 8, 8, 8, 8, 8, 8, 8, 8, 8] : List UInt8).length : Int) then (some (w64 (56 + (w64 ((gtb ([0, 1, 2, 2, 3, 3, 3, 3, 4, 4, 4, 4, 4, 4, 4, 4, 5, 5, 5, 5, 5, 5, 5, 5, 5, 5, 5, 5, 5, 5, 5, 5, 6, 6, 6, 6, 6, 6, 6, 6, 6, 6, 6, 6, 6, 6, 6, 6, 6, 6, 6, 6, 6, 6, 6, 6, 6, 6, 6, 6, 6, 6, 6, 6, 7, 7, 7, 7, 7, 7, 7, 7, 7, 7, 7, 7, 7, 7, 7, 7, 7, 7, 7, 7, 7, 7, 7, 7, 7, 7, 7, 7, 7, 7, 7, 7, 7, 7, 7, 7, 7, 7, 7, 7, 7, 7, 7, 7, 7, 7, 7, 7, 7, 7, 7, 7, 7, 7, 7, 7, 7, 7, 7, 7, 7, 7, 7, 7, 8, 8, 8, 8, 8, 8, 8, 8, 8, 8, 8, 8, 8, 8, 8, 8, 8, 8, 8, 8, 8, 8, 8, 8, 8, 8, 8, 8, 8, 8, 8, 8, 8, 8, 8, 8, 8, 8, 8, 8, 8, 8, 8, 8, 8, 8, 8, 8, 8, 8, 8, 8, 8, 8, 8, 8, 8, 8, 8, 8, 8, 8, 8, 8, 8, 8, 8, 8, 8, 8, 8, 8, 8, 8, 8, 8, 8, 8, 8, 8, 8, 8, 8, 8, 8, 8, 8, 8, 8, 8, 8, 8, 8, 8, 8, 8, 8, 8, 8, 8, 8, 8, 8, 8, 8, 8, 8, 8, 8, 8, 8, 8, 8, 8, 8, 8, 8, 8, 8, 8, 8, 8, 8, 8, 8, 8, 8, 8] : List UInt8) (IntKind.u8.wrap ((Int.fdiv (Int.fdiv (Int.fdiv a0 (2 ^ 32)) (2 ^ 16)) (2 ^ 8)))))))))) else none) else (if 0 ≤ (IntKind.u8.wrap ((Int.fdiv (Int.fdiv a0 (2 ^ 32)) (2 ^ 16)))) ∧ (IntKind.u8.wrap ((Int.fdiv (Int.fdiv a0 (2 ^ 32)) (2 ^ 16)))) < (([0, 1, 2, 2, 3, 3, 3, 3, 4, 4, 4, 4, 4, 4, 4, 4, 5, 5, 5, 5, 5, 5, 5, 5, 5, 5, 5, 5, 5, 5, 5, 5, 6, 6, 6, 6, 6, 6, 6, 6, 6, 6, 6, 6, 6, 6, 6, 6, 6, 6, 6, 6, 6, 6, 6, 6, 6, 6, 6, 6, 6, 6, 6, 6, 7, 7, 7, 7, 7, 7, 7, 7, 7, 7, 7, 7, 7, 7, 7, 7, 7, 7, 7, 7, 7, 7, 7, 7, 7, 7, 7, 7, 7, 7, 7, 7, 7, 7, 7, 7, 7, 7, 7, 7, 7, 7, 7, 7, 7, 7, 7, 7, 7, 7, 7, 7, 7, 7, 7, 7, 7, 7, 7, 7, 7, 7, 7, 7, 8, 8, 8, 8, 8, 8, 8, 8, 8, 8, 8, 8, 8, 8, 8, 8, 8, 8, 8, 8, 8, 8, 8, 8, 8, 8, 8, 8, 8, 8, 8, 8, 8, 8, 8, 8, 8, 8, 8, 8, 8, 8, 8, 8, 8, 8, 8, 8, 8, 8, 8, 8, 8, 8, 8, 8, 8, 8, 8, 8, 8, 8, 8, 8, 8, 8, 8, 8, 8, 8, 8, 8, 8, 8, 8, 8, 8, 8, 8, 8, 8, 8, 8, 8, 8, 8, 8, 8, 8, 8, 8, 8, 8, 8, 8, 8, 8, 8, 8, 8, 8, 8, 8, 8, 8, 8, 8, 8, 8, 8, 8, 8, 8, 8, 8, 8, 8, 8, 8, 8, 8, 8, 8, 8, 8, 8, 8, 8] : List UInt8).length : Int) then (some (w64 (48 + (w64 ((gtb ([0, 1, 2, 2, 3, 3, 3, 3, 4, 4, 4, 4, 4, 4, 4, 4, 5, 5, 5, 5, 5, 5, 5, 5, 5, 5, 5, 5, 5, 5, 5, 5, 6, 6, 6, 6, 6, 6, 6, 6, 6, 6, 6, 6, 6, 6, 6, 6, 6, 6, 6, 6, 6, 6, 6, 6, 6, 6, 6, 6, 6, 6, 6, 6, 7, 7, 7, 7, 7, 7, 7, 7, 7, 7, 7, 7, 7, 7, 7, 7, 7, 7, 7, 7, 7, 7, 7, 7, 7, 7, 7, 7, 7, 7, 7, 7, 7, 7, 7, 7, 7, 7, 7, 7, 7, 7, 7, 7, 7, 7, 7, 7, 7, 7, 7, 7, 7, 7, 7, 7, 7, 7, 7, 7, 7, 7, 7, 7, 8, 8, 8, 8, 8, 8, 8, 8, 8, 8, 8, 8, 8, 8, 8, 8, 8, 8, 8, 8, 8, 8, 8, 8, 8, 8, 8, 8, 8, 8, 8, 8, 8, 8, 8, 8, 8, 8, 8, 8, 8, 8, 8, 8, 8, 8, 8, 8, 8, 8, 8, 8, 8, 8, 8, 8, 8, 8, 8, 8, 8, 8, 8, 8, 8, 8, 8, 8, 8, 8, 8, 8, 8, 8, 8, 8, 8, 8, 8, 8, 8, 8, 8, 8, 8, 8, 8, 8, 8, 8, 8, 8, 8, 8, 8, 8, 8, 8, 8, 8, 8, 8, 8, 8, 8, 8, 8, 8, 8, 8, 8, 8, 8, 8, 8, 8, 8, 8, 8, 8, 8, 8, 8, 8, 8, 8, 8, 8] : List UInt8) (IntKind.u8.wrap ((Int.fdiv (Int.fdiv a0 (2 ^ 32)) (2 ^ 16)))))))))) else none)) else (if (decide (256 ≤ (Int.fdiv a0 (2 ^ 32)))) = true then (if 0 ≤ (IntKind.u8.wrap ((Int.fdiv (Int.fdiv a0 (2 ^ 32)) (2 ^ 8)))) ∧ (IntKind.u8.wrap ((Int.fdiv (Int.fdiv a0 (2 ^ 32)) (2 ^ 8)))) < (([0, 1, 2, 2, 3, 3, 3, 3, 4, 4, 4, 4, 4, 4, 4, 4, 5, 5, 5, 5, 5, 5, 5, 5, 5, 5, 5, 5, 5, 5, 5, 5, 6, 6, 6, 6, 6, 6, 6, 6, 6, 6, 6, 6, 6, 6, 6, 6, 6, 6, 6, 6, 6, 6, 6, 6, 6, 6, 6, 6, 6, 6, 6, 6, 7, 7, 7, 7, 7, 7, 7, 7, 7, 7, 7, 7, 7, 7, 7, 7, 7, 7, 7, 7, 7, 7, 7, 7, 7, 7, 7, 7, 7, 7, 7, 7, 7, 7, 7, 7, 7, 7, 7, 7, 7, 7, 7, 7, 7, 7, 7, 7, 7, 7, 7, 7, 7, 7, 7, 7, 7, 7, 7, 7, 7, 7, 7, 7, 8, 8, 8, 8, 8, 8, 8, 8, 8, 8, 8, 8, 8, 8, 8, 8, 8, 8, 8, 8, 8, 8, 8, 8, 8, 8, 8, 8, 8, 8, 8, 8, 8, 8, 8, 8, 8, 8, 8, 8, 8, 8, 8, 8, 8, 8, 8, 8, 8, 8, 8, 8, 8, 8, 8, 8, 8, 8, 8, 8, 8, 8, 8, 8, 8, 8, 8, 8, 8, 8, 8, 8, 8, 8, 8, 8, 8, 8, 8, 8, 8, 8, 8, 8, 8, 8, 8, 8, 8, 8, 8, 8, 8, 8, 8, 8, 8, 8, 8, 8, 8, 8, 8, 8, 8, 8, 8, 8, 8, 8, 8, 8, 8, 8, 8, 8, 8, 8, 8, 8, 8, 8, 8, 8, 8, 8, 8, 8] : List UInt8).length : Int) then (some (w64 (40 + (w64 ((gtb ([0, 1, 2, 2, 3, 3, 3, 3, 4, 4, 4, 4, 4, 4, 4, 4, 5, 5, 5, 5, 5, 5, 5, 5, 5, 5, 5, 5, 5, 5, 5, 5, 6, 6, 6, 6, 6, 6, 6, 6, 6, 6, 6, 6, 6, 6, 6, 6, 6, 6, 6, 6, 6, 6, 6, 6, 6, 6, 6, 6, 6, 6, 6, 6, 7, 7, 7, 7, 7, 7, 7, 7, 7, 7, 7, 7, 7, 7, 7, 7, 7, 7, 7, 7, 7, 7, 7, 7, 7, 7, 7, 7, 7, 7, 7, 7, 7, 7, 7, 7, 7, 7, 7, 7, 7, 7, 7, 7, 7, 7, 7, 7, 7, 7, 7, 7, 7, 7, 7, 7, 7, 7, 7, 7, 7, 7, 7, 7, 8, 8, 8, 8, 8, 8, 8, 8, 8, 8, 8, 8, 8, 8, 8, 8, 8, 8, 8, 8, 8, 8, 8, 8, 8, 8, 8, 8, 8, 8, 8, 8, 8, 8, 8, 8, 8, 8, 8, 8, 8, 8, 8, 8, 8, 8, 8, 8, 8, 8, 8, 8, 8, 8, 8, 8, 8, 8, 8, 8, 8, 8, 8, 8, 8, 8, 8, 8, 8, 8, 8, 8, 8, 8, 8, 8, 8, 8, 8, 8, 8, 8, 8, 8, 8, 8, 8, 8, 8, 8, 8, 8, 8, 8, 8, 8, 8, 8, 8, 8, 8, 8, 8, 8, 8, 8, 8, 8, 8, 8, 8, 8, 8, 8, 8, 8, 8, 8, 8, 8, 8, 8, 8, 8, 8, 8, 8, 8] : List UInt8) (IntKind.u8.wrap ((Int.fdiv (Int.fdiv a0 (2 ^ 32)) (2 ^ 8)))))))))) else none) else (if 0 ≤ (IntKind.u8.wrap ((Int.fdiv a0 (2 ^ 32)))) ∧ (IntKind.u8.wrap ((Int.fdiv a0 (2 ^ 32)))) < (([0, 1, 2, 2, 3, 3, 3, 3, 4, 4, 4, 4, 4, 4, 4, 4, 5, 5, 5, 5, 5, 5, 5, 5, 5, 5, 5, 5, 5, 5, 5, 5, 6, 6, 6, 6, 6, 6, 6, 6, 6, 6, 6, 6, 6, 6, 6, 6, 6, 6, 6, 6, 6, 6, 6, 6, 6, 6, 6, 6, 6, 6, 6, 6, 7, 7, 7, 7, 7, 7, 7, 7, 7, 7, 7, 7, 7, 7, 7, 7, 7, 7, 7, 7, 7, 7, 7, 7, 7, 7, 7, 7, 7, 7, 7, 7, 7, 7, 7, 7, 7, 7, 7, 7, 7, 7, 7, 7, 7, 7, 7, 7, 7, 7, 7, 7, 7, 7, 7, 7, 7, 7, 7, 7, 7, 7, 7, 7, 8, 8, 8, 8, 8, 8, 8, 8, 8, 8, 8, 8, 8, 8, 8, 8, 8, 8, 8, 8, 8, 8, 8, 8, 8, 8, 8, 8, 8, 8, 8, 8, 8, 8, 8, 8, 8, 8, 8, 8, 8, 8, 8, 8, 8, 8, 8, 8, 8, 8, 8, 8, 8, 8, 8, 8, 8, 8, 8, 8, 8, 8, 8, 8, 8, 8, 8, 8, 8, 8, 8, 8, 8, 8, 8, 8, 8, 8, 8, 8, 8, 8, 8, 8, 8, 8, 8, 8, 8, 8, 8, 8, 8, 8, 8, 8, 8, 8, 8, 8, 8, 8, 8, 8, 8, 8, 8, 8, 8, 8, 8, 8, 8, 8, 8, 8, 8, 8, 8, 8, 8, 8, 8, 8, 8, 8, 8, 8] : List UInt8).length : Int) then (some (w64 (32 + (w64 ((gtb ([0, 1, 2, 2, 3, 3, 3, 3, 4, 4, 4, 4, 4, 4, 4, 4, 5, 5, 5, 5, 5, 5, 5, 5, 5, 5, 5, 5, 5, 5, 5, 5, 6, 6, 6, 6, 6, 6, 6, 6, 6, 6, 6, 6, 6, 6, 6, 6, 6, 6, 6, 6, 6, 6, 6, 6, 6, 6, 6, 6, 6, 6, 6, 6, 7, 7, 7, 7, 7, 7, 7, 7, 7, 7, 7, 7, 7, 7, 7, 7, 7, 7, 7, 7, 7, 7, 7, 7, 7, 7, 7, 7, 7, 7, 7, 7, 7, 7, 7, 7, 7, 7, 7, 7, 7, 7, 7, 7, 7, 7, 7, 7, 7, 7, 7, 7, 7, 7, 7, 7, 7, 7, 7, 7, 7, 7, 7, 7, 8, 8, 8, 8, 8, 8, 8, 8, 8, 8, 8, 8, 8, 8, 8, 8, 8, 8, 8, 8, 8, 8, 8, 8, 8, 8, 8, 8, 8, 8, 8, 8, 8, 8, 8, 8, 8, 8, 8, 8, 8, 8, 8, 8, 8, 8, 8, 8, 8, 8, 8, 8, 8, 8, 8, 8, 8, 8, 8, 8, 8, 8, 8, 8, 8, 8, 8, 8, 8, 8, 8, 8, 8, 8, 8, 8, 8, 8, 8, 8, 8, 8, 8, 8, 8, 8, 8, 8, 8, 8, 8, 8, 8, 8, 8, 8, 8, 8, 8, 8, 8, 8, 8, 8, 8, 8, 8, 8, 8, 8, 8, 8, 8, 8, 8, 8, 8, 8, 8, 8, 8, 8, 8, 8, 8, 8, 8, 8] : List UInt8) (IntKind.u8.wrap ((Int.fdiv a0 (2 ^ 32)))))))))) else none))) else (if (decide (65536 ≤ a0)) = true then (if (decide (256 ≤ (Int.fdiv a0 (2 ^ 16)))) = true then (if 0 ≤ (IntKind.u8.wrap ((Int.fdiv (Int.fdiv a0 (2 ^ 16)) (2 ^ 8)))) ∧ (IntKind.u8.wrap ((Int.fdiv (Int.fdiv a0 (2 ^ 16)) (2 ^ 8)))) < (([0, 1, 2, 2, 3, 3, 3, 3, 4, 4, 4, 4, 4, 4, 4, 4, 5, 5, 5, 5, 5, 5, 5, 5, 5, 5, 5, 5, 5, 5, 5, 5, 6, 6, 6, 6, 6, 6, 6, 6, 6, 6, 6, 6, 6, 6, 6, 6, 6, 6, 6, 6, 6, 6, 6, 6, 6, 6, 6, 6, 6, 6, 6, 6, 7, 7, 7, 7, 7, 7, 7, 7, 7, 7, 7, 7, 7, 7, 7, 7, 7, 7, 7, 7, 7, 7, 7, 7, 7, 7, 7, 7, 7, 7, 7, 7, 7, 7, 7, 7, 7, 7, 7, 7, 7, 7, 7, 7, 7, 7, 7, 7, 7, 7, 7, 7, 7, 7, 7, 7, 7, 7, 7, 7, 7, 7, 7, 7, 8, 8, 8, 8, 8, 8, 8, 8, 8, 8, 8, 8, 8, 8, 8, 8, 8, 8, 8, 8, 8, 8, 8, 8, 8, 8, 8, 8, 8, 8, 8, 8, 8, 8, 8, 8, 8, 8, 8, 8, 8, 8, 8, 8, 8, 8, 8, 8, 8, 8, 8, 8, 8, 8, 8, 8, 8, 8, 8, 8, 8, 8, 8, 8, 8, 8, 8, 8, 8, 8, 8, 8, 8, 8, 8, 8, 8, 8, 8, 8, 8, 8, 8, 8, 8, 8, 8, 8, 8, 8, 8, 8, 8, 8, 8, 8, 8, 8, 8, 8, 8, 8, 8, 8, 8, 8, 8, 8, 8, 8, 8, 8, 8, 8, 8, 8, 8, 8, 8, 8, 8, 8, 8, 8, 8, 8, 8, 8] : List UInt8).length : Int) then (some (w64 (24 + (w64 ((gtb ([0, 1, 2, 2, 3, 3, 3, 3, 4, 4, 4, 4, 4, 4, 4, 4, 5, 5, 5, 5, 5, 5, 5, 5, 5, 5, 5, 5, 5, 5, 5, 5, 6, 6, 6, 6, 6, 6, 6, 6, 6, 6, 6, 6, 6, 6, 6, 6, 6, 6, 6, 6, 6, 6, 6, 6, 6, 6, 6, 6, 6, 6, 6, 6, 7, 7, 7, 7, 7, 7, 7, 7, 7, 7, 7, 7, 7, 7, 7, 7, 7, 7, 7, 7, 7, 7, 7, 7, 7, 7, 7, 7, 7, 7, 7, 7, 7, 7, 7, 7, 7, 7, 7, 7, 7, 7, 7, 7, 7, 7, 7, 7, 7, 7, 7, 7, 7, 7, 7, 7, 7, 7, 7, 7, 7, 7, 7, 7, 8, 8, 8, 8, 8, 8, 8, 8, 8, 8, 8, 8, 8, 8, 8, 8, 8, 8, 8, 8, 8, 8, 8, 8, 8, 8, 8, 8, 8, 8, 8, 8, 8, 8, 8, 8, 8, 8, 8, 8, 8, 8, 8, 8, 8, 8, 8, 8, 8, 8, 8, 8, 8, 8, 8, 8, 8, 8, 8, 8, 8, 8, 8, 8, 8, 8, 8, 8, 8, 8, 8, 8, 8, 8, 8, 8, 8, 8, 8, 8, 8, 8, 8, 8, 8, 8, 8, 8, 8, 8, 8, 8, 8, 8, 8, 8, 8, 8, 8, 8, 8, 8, 8, 8, 8, 8, 8, 8, 8, 8, 8, 8, 8, 8, 8, 8, 8, 8, 8, 8, 8, 8, 8, 8, 8, 8, 8, 8] : List UInt8) (IntKind.u8.wrap ((Int.fdiv (Int.fdiv a0 (2 ^ 16)) (2 ^ 8)))))))))) else none) else (if 0 ≤ (IntKind.u8.wrap ((Int.fdiv a0 (2 ^ 16)))) ∧ (IntKind.u8.wrap ((Int.fdiv a0 (2 ^ 16)))) < (([0, 1, 2, 2, 3, 3, 3, 3, 4, 4, 4, 4, 4, 4, 4, 4, 5, 5, 5, 5, 5, 5, 5, 5, 5, 5, 5, 5, 5, 5, 5, 5, 6, 6, 6, 6, 6, 6, 6, 6, 6, 6, 6, 6, 6, 6, 6, 6, 6, 6, 6, 6, 6, 6, 6, 6, 6, 6, 6, 6, 6, 6, 6, 6, 7, 7, 7, 7, 7, 7, 7, 7, 7, 7, 7, 7, 7, 7, 7, 7, 7, 7, 7, 7, 7, 7, 7, 7, 7, 7, 7, 7, 7, 7, 7, 7, 7, 7, 7, 7, 7, 7, 7, 7, 7, 7, 7, 7, 7, 7, 7, 7, 7, 7, 7, 7, 7, 7, 7, 7, 7, 7, 7, 7, 7, 7, 7, 7, 8, 8, 8, 8, 8, 8, 8, 8, 8, 8, 8, 8, 8, 8, 8, 8, 8, 8, 8, 8, 8, 8, 8, 8, 8, 8, 8, 8, 8, 8, 8, 8, 8, 8, 8, 8, 8, 8, 8, 8, 8, 8, 8, 8, 8, 8, 8, 8, 8, 8, 8, 8, 8, 8, 8, 8, 8, 8, 8, 8, 8, 8, 8, 8, 8, 8, 8, 8, 8, 8, 8, 8, 8, 8, 8, 8, 8, 8, 8, 8, 8, 8, 8, 8, 8, 8, 8, 8, 8, 8, 8, 8, 8, 8, 8, 8, 8, 8, 8, 8, 8, 8, 8, 8, 8, 8, 8, 8, 8, 8, 8, 8, 8, 8, 8, 8, 8, 8, 8, 8, 8, 8, 8, 8, 8, 8, 8, 8] : List UInt8).length : Int) then (some (w64 (16 + (w64 ((gtb ([0, 1, 2, 2, 3, 3, 3, 3, 4, 4, 4, 4, 4, 4, 4, 4, 5, 5, 5, 5, 5, 5, 5, 5, 5, 5, 5, 5, 5, 5, 5, 5, 6, 6, 6, 6, 6, 6, 6, 6, 6, 6, 6, 6, 6, 6, 6, 6, 6, 6, 6, 6, 6, 6, 6, 6, 6, 6, 6, 6, 6, 6, 6, 6, 7, 7, 7, 7, 7, 7, 7, 7, 7, 7, 7, 7, 7, 7, 7, 7, 7, 7, 7, 7, 7, 7, 7, 7, 7, 7, 7, 7, 7, 7, 7, 7, 7, 7, 7, 7, 7, 7, 7, 7, 7, 7, 7, 7, 7, 7, 7, 7, 7, 7, 7, 7, 7, 7, 7, 7, 7, 7, 7, 7, 7, 7, 7, 7, 8, 8, 8, 8, 8, 8, 8, 8, 8, 8, 8, 8, 8, 8, 8, 8, 8, 8, 8, 8, 8, 8, 8, 8, 8, 8, 8, 8, 8, 8, 8, 8, 8, 8, 8, 8, 8, 8, 8, 8, 8, 8, 8, 8, 8, 8, 8, 8, 8, 8, 8, 8, 8, 8, 8, 8, 8, 8, 8, 8, 8, 8, 8, 8, 8, 8, 8, 8, 8, 8, 8, 8, 8, 8, 8, 8, 8, 8, 8, 8, 8, 8, 8, 8, 8, 8, 8, 8, 8, 8, 8, 8, 8, 8, 8, 8, 8, 8, 8, 8, 8, 8, 8, 8, 8, 8, 8, 8, 8, 8, 8, 8, 8, 8, 8, 8, 8, 8, 8, 8, 8, 8, 8, 8, 8, 8, 8, 8] : List UInt8) (IntKind.u8.wrap ((Int.fdiv a0 (2 ^ 16)))))))))) else none)) else (if (decide (256 ≤ a0)) = true then (if 0 ≤ (IntKind.u8.wrap ((Int.fdiv a0 (2 ^ 8)))) ∧ (IntKind.u8.wrap ((Int.fdiv a0 (2 ^ 8)))) < (([0, 1, 2, 2, 3, 3, 3, 3, 4, 4, 4, 4, 4, 4, 4, 4, 5, 5, 5, 5, 5, 5, 5, 5, 5, 5, 5, 5, 5, 5, 5, 5, 6, 6, 6, 6, 6, 6, 6, 6, 6, 6, 6, 6, 6, 6, 6, 6, 6, 6, 6, 6, 6, 6, 6, 6, 6, 6, 6, 6, 6, 6, 6, 6, 7, 7, 7, 7, 7, 7, 7, 7, 7, 7, 7, 7, 7, 7, 7, 7, 7, 7, 7, 7, 7, 7, 7, 7, 7, 7, 7, 7, 7, 7, 7, 7, 7, 7, 7, 7, 7, 7, 7, 7, 7, 7, 7, 7, 7, 7, 7, 7, 7, 7, 7, 7, 7, 7, 7, 7, 7, 7, 7, 7, 7, 7, 7, 7, 8, 8, 8, 8, 8, 8, 8, 8, 8, 8, 8, 8, 8, 8, 8, 8, 8, 8, 8, 8, 8, 8, 8, 8, 8, 8, 8, 8, 8, 8, 8, 8, 8, 8, 8, 8, 8, 8, 8, 8, 8, 8, 8, 8, 8, 8, 8, 8, 8, 8, 8, 8, 8, 8, 8, 8, 8, 8, 8, 8, 8, 8, 8, 8, 8, 8, 8, 8, 8, 8, 8, 8, 8, 8, 8, 8, 8, 8, 8, 8, 8, 8, 8, 8, 8, 8, 8, 8, 8, 8, 8, 8, 8, 8, 8, 8, 8, 8, 8, 8, 8, 8, 8, 8, 8, 8, 8, 8, 8, 8, 8, 8, 8, 8, 8, 8, 8, 8, 8, 8, 8, 8, 8, 8, 8, 8, 8, 8] : List UInt8).length : Int) then (some (w64 (8 + (w64 ((gtb ([0, 1, 2, 2, 3, 3, 3, 3, 4, 4, 4, 4, 4, 4, 4, 4, 5, 5, 5, 5, 5, 5, 5, 5, 5, 5, 5, 5, 5, 5, 5, 5, 6, 6, 6, 6, 6, 6, 6, 6, 6, 6, 6, 6, 6, 6, 6, 6, 6, 6, 6, 6, 6, 6, 6, 6, 6, 6, 6, 6, 6, 6, 6, 6, 7, 7, 7, 7, 7, 7, 7, 7, 7, 7, 7, 7, 7, 7, 7, 7, 7, 7, 7, 7, 7, 7, 7, 7, 7, 7, 7, 7, 7, 7, 7, 7, 7, 7, 7, 7, 7, 7, 7, 7, 7, 7, 7, 7, 7, 7, 7, 7, 7, 7, 7, 7, 7, 7, 7, 7, 7, 7, 7, 7, 7, 7, 7, 7, 8, 8, 8, 8, 8, 8, 8, 8, 8, 8, 8, 8, 8, 8, 8, 8, 8, 8, 8, 8, 8, 8, 8, 8, 8, 8, 8, 8, 8, 8, 8, 8, 8, 8, 8, 8, 8, 8, 8, 8, 8, 8, 8, 8, 8, 8, 8, 8, 8, 8, 8, 8, 8, 8, 8, 8, 8, 8, 8, 8, 8, 8, 8, 8, 8, 8, 8, 8, 8, 8, 8, 8, 8, 8, 8, 8, 8, 8, 8, 8, 8, 8, 8, 8, 8, 8, 8, 8, 8, 8, 8, 8, 8, 8, 8, 8, 8, 8, 8, 8, 8, 8, 8, 8, 8, 8, 8, 8, 8, 8, 8, 8, 8, 8, 8, 8, 8, 8, 8, 8, 8, 8, 8, 8, 8, 8, 8, 8] : List UInt8) (IntKind.u8.wrap ((Int.fdiv a0 (2 ^ 8)))))))))) else none) else (if 0 ≤ (IntKind.u8.wrap (a0)) ∧ (IntKind.u8.wrap (a0)) < (([0, 1, 2, 2, 3, 3, 3, 3, 4, 4, 4, 4, 4, 4, 4, 4, 5, 5, 5, 5, 5, 5, 5, 5, 5, 5, 5, 5, 5, 5, 5, 5, 6, 6, 6, 6, 6, 6, 6, 6, 6, 6, 6, 6, 6, 6, 6, 6, 6, 6, 6, 6, 6, 6, 6, 6, 6, 6, 6, 6, 6, 6, 6, 6, 7, 7, 7, 7, 7, 7, 7, 7, 7, 7, 7, 7, 7, 7, 7, 7, 7, 7, 7, 7, 7, 7, 7, 7, 7, 7, 7, 7, 7, 7, 7, 7, 7, 7, 7, 7, 7, 7, 7, 7, 7, 7, 7, 7, 7, 7, 7, 7, 7, 7, 7, 7, 7, 7, 7, 7, 7, 7, 7, 7, 7, 7, 7, 7, 8, 8, 8, 8, 8, 8, 8, 8, 8, 8, 8, 8, 8, 8, 8, 8, 8, 8, 8, 8, 8, 8, 8, 8, 8, 8, 8, 8, 8, 8, 8, 8, 8, 8, 8, 8, 8, 8, 8, 8, 8, 8, 8, 8, 8, 8, 8, 8, 8, 8, 8, 8, 8, 8, 8, 8, 8, 8, 8, 8, 8, 8, 8, 8, 8, 8, 8, 8, 8, 8, 8, 8, 8, 8, 8, 8, 8, 8, 8, 8, 8, 8, 8, 8, 8, 8, 8, 8, 8, 8, 8, 8, 8, 8, 8, 8, 8, 8, 8, 8, 8, 8, 8, 8, 8, 8, 8, 8, 8, 8, 8, 8, 8, 8, 8, 8, 8, 8, 8, 8, 8, 8, 8, 8, 8, 8, 8, 8] : List UInt8).length : Int) then (some (w64 (0 + (w64 ((gtb ([0, 1, 2, 2, 3, 3, 3, 3, 4, 4, 4, 4, 4, 4, 4, 4, 5, 5, 5, 5, 5, 5, 5, 5, 5, 5, 5, 5, 5, 5, 5, 5, 6, 6, 6, 6, 6, 6, 6, 6, 6, 6, 6, 6, 6, 6, 6, 6, 6, 6, 6, 6, 6, 6, 6, 6, 6, 6, 6, 6, 6, 6, 6, 6, 7, 7, 7, 7, 7, 7, 7, 7, 7, 7, 7, 7, 7, 7, 7, 7, 7, 7, 7, 7, 7, 7, 7, 7, 7, 7, 7, 7, 7, 7, 7, 7, 7, 7, 7, 7, 7, 7, 7, 7, 7, 7, 7, 7, 7, 7, 7, 7, 7, 7, 7, 7, 7, 7, 7, 7, 7, 7, 7, 7, 7, 7, 7, 7, 8, 8, 8, 8, 8, 8, 8, 8, 8, 8, 8, 8, 8, 8, 8, 8, 8, 8, 8, 8, 8, 8, 8, 8, 8, 8, 8, 8, 8, 8, 8, 8, 8, 8, 8, 8, 8, 8, 8, 8, 8, 8, 8, 8, 8, 8, 8, 8, 8, 8, 8, 8, 8, 8, 8, 8, 8, 8, 8, 8, 8, 8, 8, 8, 8, 8, 8, 8, 8, 8, 8, 8, 8, 8, 8, 8, 8, 8, 8, 8, 8, 8, 8, 8, 8, 8, 8, 8, 8, 8, 8, 8, 8, 8, 8, 8, 8, 8, 8, 8, 8, 8, 8, 8, 8, 8, 8, 8, 8, 8, 8, 8, 8, 8, 8, 8, 8, 8, 8, 8, 8, 8, 8, 8, 8, 8, 8, 8] : List UInt8) (IntKind.u8.wrap (a0)))))))) else none)))
set_option maxRecDepth 20000 in
set_option maxHeartbeats 40000000 in
theorem bits_Len64.spec {a0 : Int}  {r : Int} (H : bits_Len64.f a0 = some r) :
    Spec Try.prog 136 [.int .u64 a0] [] [] (fun v l => v = .int .i64 r ∧ l = []) := by
  refine Spec.enter Try.func136 rfl (by kernel_rfl) (by kernel_rfl) fun w0 F0 h0 => ?_
  unfold bits_Len64.f at H
  refine J.seq (J.region ?_)
  refine RJ.run ttok 1 rfl ?_
  refine RJ.fin [(0, .int .u64 a0), (2, .int .i64 0)] rfl ?_
  refine J.seq (J.seq (J.region ?_))
  refine RJ.run ttok 2 rfl ?_
  refine RJ.fin [(0, _), (2, _), (4, .bool (decide (4294967296 ≤ a0)))] rfl ?_
  refine J.cond rfl (fun c1 => ?_) (fun c1 => ?_)
  · replace H := ite_t c1 H
    refine J.seq (J.region ?_)
    refine RJ.run ttok 3 rfl ?_
    refine RJ.fin [(0, .int .u64 (Int.fdiv a0 (2 ^ 32)))] rfl ?_
    refine J.region ?_
    refine RJ.run ttok 1 rfl ?_
    refine RJ.fin [(0, _), (2, .int .i64 32)] rfl ?_
    refine J.seq (J.seq (J.region ?_))
    refine RJ.run ttok 2 rfl ?_
    refine RJ.fin [(0, _), (2, _), (8, .bool (decide (65536 ≤ (Int.fdiv a0 (2 ^ 32)))))] rfl ?_
    refine J.cond rfl (fun c2 => ?_) (fun c2 => ?_)
    · replace H := ite_t c2 H
      refine J.seq (J.region ?_)
      refine RJ.run ttok 3 rfl ?_
      refine RJ.fin [(0, .int .u64 (Int.fdiv (Int.fdiv a0 (2 ^ 32)) (2 ^ 16))), (2, _)] rfl ?_
      refine J.region ?_
      refine RJ.run ttok 3 rfl ?_
      refine RJ.fin [(0, _), (2, .int .i64 48)] rfl ?_
      refine J.seq (J.seq (J.region ?_))
      refine RJ.run ttok 2 rfl ?_
      refine RJ.fin [(0, _), (2, _), (14, .bool (decide (256 ≤ (Int.fdiv (Int.fdiv a0 (2 ^ 32)) (2 ^ 16)))))] rfl ?_
      refine J.cond rfl (fun c3 => ?_) (fun c3 => ?_)
      · replace H := ite_t c3 H
        refine J.seq (J.region ?_)
        refine RJ.run ttok 3 rfl ?_
        refine RJ.fin [(0, .int .u64 (Int.fdiv (Int.fdiv (Int.fdiv a0 (2 ^ 32)) (2 ^ 16)) (2 ^ 8))), (2, _)] rfl ?_
        refine J.region ?_
        refine RJ.run ttok 3 rfl ?_
        refine RJ.fin [(0, _), (2, .int .i64 56)] rfl ?_
        refine J.seq (J.region ?_)
        refine RJ.run ttok 3 rfl ?_
        obtain ⟨⟨p1, p2⟩, H⟩ := guard_t H
        refine RJ.q rfl rfl (q_byte ttok rfl rfl rfl rfl p1 p2) ?_
        refine RJ.run ttok 3 rfl ?_
        refine RJ.fin [(2, .int .i64 (w64 (56 + (w64 ((gtb ([0, 1, 2, 2, 3, 3, 3, 3, 4, 4, 4, 4, 4, 4, 4, 4, 5, 5, 5, 5, 5, 5, 5, 5, 5, 5, 5, 5, 5, 5, 5, 5, 6, 6, 6, 6, 6, 6, 6, 6, 6, 6, 6, 6, 6, 6, 6, 6, 6, 6, 6, 6, 6, 6, 6, 6, 6, 6, 6, 6, 6, 6, 6, 6, 7, 7, 7, 7, 7, 7, 7, 7, 7, 7, 7, 7, 7, 7, 7, 7, 7, 7, 7, 7, 7, 7, 7, 7, 7, 7, 7, 7, 7, 7, 7, 7, 7, 7, 7, 7, 7, 7, 7, 7, 7, 7, 7, 7, 7, 7, 7, 7, 7, 7, 7, 7, 7, 7, 7, 7, 7, 7, 7, 7, 7, 7, 7, 7, 8, 8, 8, 8, 8, 8, 8, 8, 8, 8, 8, 8, 8, 8, 8, 8, 8, 8, 8, 8, 8, 8, 8, 8, 8, 8, 8, 8, 8, 8, 8, 8, 8, 8, 8, 8, 8, 8, 8, 8, 8, 8, 8, 8, 8, 8, 8, 8, 8, 8, 8, 8, 8, 8, 8, 8, 8, 8, 8, 8, 8, 8, 8, 8, 8, 8, 8, 8, 8, 8, 8, 8, 8, 8, 8, 8, 8, 8, 8, 8, 8, 8, 8, 8, 8, 8, 8, 8, 8, 8, 8, 8, 8, 8, 8, 8, 8, 8, 8, 8, 8, 8, 8, 8, 8, 8, 8, 8, 8, 8, 8, 8, 8, 8, 8, 8, 8, 8, 8, 8, 8, 8, 8, 8, 8, 8, 8, 8] : List UInt8) (IntKind.u8.wrap ((Int.fdiv (Int.fdiv (Int.fdiv a0 (2 ^ 32)) (2 ^ 16)) (2 ^ 8))))))))))] rfl ?_
        refine J.ret ?_
        obtain rfl := Option.some.inj H
        exact ⟨_, _, _, (results_slots rfl), ⟨rfl, rfl⟩, h0.only [] rfl⟩
      replace H := ite_f c3 H
      refine J.skip ?_
      refine J.seq (J.region ?_)
      refine RJ.run ttok 3 rfl ?_
      obtain ⟨⟨p3, p4⟩, H⟩ := guard_t H
      refine RJ.q rfl rfl (q_byte ttok rfl rfl rfl rfl p3 p4) ?_
      refine RJ.run ttok 3 rfl ?_
      refine RJ.fin [(2, .int .i64 (w64 (48 + (w64 ((gtb ([0, 1, 2, 2, 3, 3, 3, 3, 4, 4, 4, 4, 4, 4, 4, 4, 5, 5, 5, 5, 5, 5, 5, 5, 5, 5, 5, 5, 5, 5, 5, 5, 6, 6, 6, 6, 6, 6, 6, 6, 6, 6, 6, 6, 6, 6, 6, 6, 6, 6, 6, 6, 6, 6, 6, 6, 6, 6, 6, 6, 6, 6, 6, 6, 7, 7, 7, 7, 7, 7, 7, 7, 7, 7, 7, 7, 7, 7, 7, 7, 7, 7, 7, 7, 7, 7, 7, 7, 7, 7, 7, 7, 7, 7, 7, 7, 7, 7, 7, 7, 7, 7, 7, 7, 7, 7, 7, 7, 7, 7, 7, 7, 7, 7, 7, 7, 7, 7, 7, 7, 7, 7, 7, 7, 7, 7, 7, 7, 8, 8, 8, 8, 8, 8, 8, 8, 8, 8, 8, 8, 8, 8, 8, 8, 8, 8, 8, 8, 8, 8, 8, 8, 8, 8, 8, 8, 8, 8, 8, 8, 8, 8, 8, 8, 8, 8, 8, 8, 8, 8, 8, 8, 8, 8, 8, 8, 8, 8, 8, 8, 8, 8, 8, 8, 8, 8, 8, 8, 8, 8, 8, 8, 8, 8, 8, 8, 8, 8, 8, 8, 8, 8, 8, 8, 8, 8, 8, 8, 8, 8, 8, 8, 8, 8, 8, 8, 8, 8, 8, 8, 8, 8, 8, 8, 8, 8, 8, 8, 8, 8, 8, 8, 8, 8, 8, 8, 8, 8, 8, 8, 8, 8, 8, 8, 8, 8, 8, 8, 8, 8, 8, 8, 8, 8, 8, 8] : List UInt8) (IntKind.u8.wrap ((Int.fdiv (Int.fdiv a0 (2 ^ 32)) (2 ^ 16))))))))))] rfl ?_
      refine J.ret ?_
      obtain rfl := Option.some.inj H
      exact ⟨_, _, _, (results_slots rfl), ⟨rfl, rfl⟩, h0.only [] rfl⟩
    replace H := ite_f c2 H
    refine J.skip ?_
    refine J.seq (J.seq (J.region ?_))
    refine RJ.run ttok 2 rfl ?_
    refine RJ.fin [(0, _), (2, _), (14, .bool (decide (256 ≤ (Int.fdiv a0 (2 ^ 32)))))] rfl ?_
    refine J.cond rfl (fun c4 => ?_) (fun c4 => ?_)
    · replace H := ite_t c4 H
      refine J.seq (J.region ?_)
      refine RJ.run ttok 3 rfl ?_
      refine RJ.fin [(0, .int .u64 (Int.fdiv (Int.fdiv a0 (2 ^ 32)) (2 ^ 8))), (2, _)] rfl ?_
      refine J.region ?_
      refine RJ.run ttok 3 rfl ?_
      refine RJ.fin [(0, _), (2, .int .i64 40)] rfl ?_
      refine J.seq (J.region ?_)
      refine RJ.run ttok 3 rfl ?_
      obtain ⟨⟨p5, p6⟩, H⟩ := guard_t H
      refine RJ.q rfl rfl (q_byte ttok rfl rfl rfl rfl p5 p6) ?_
      refine RJ.run ttok 3 rfl ?_
      refine RJ.fin [(2, .int .i64 (w64 (40 + (w64 ((gtb ([0, 1, 2, 2, 3, 3, 3, 3, 4, 4, 4, 4, 4, 4, 4, 4, 5, 5, 5, 5, 5, 5, 5, 5, 5, 5, 5, 5, 5, 5, 5, 5, 6, 6, 6, 6, 6, 6, 6, 6, 6, 6, 6, 6, 6, 6, 6, 6, 6, 6, 6, 6, 6, 6, 6, 6, 6, 6, 6, 6, 6, 6, 6, 6, 7, 7, 7, 7, 7, 7, 7, 7, 7, 7, 7, 7, 7, 7, 7, 7, 7, 7, 7, 7, 7, 7, 7, 7, 7, 7, 7, 7, 7, 7, 7, 7, 7, 7, 7, 7, 7, 7, 7, 7, 7, 7, 7, 7, 7, 7, 7, 7, 7, 7, 7, 7, 7, 7, 7, 7, 7, 7, 7, 7, 7, 7, 7, 7, 8, 8, 8, 8, 8, 8, 8, 8, 8, 8, 8, 8, 8, 8, 8, 8, 8, 8, 8, 8, 8, 8, 8, 8, 8, 8, 8, 8, 8, 8, 8, 8, 8, 8, 8, 8, 8, 8, 8, 8, 8, 8, 8, 8, 8, 8, 8, 8, 8, 8, 8, 8, 8, 8, 8, 8, 8, 8, 8, 8, 8, 8, 8, 8, 8, 8, 8, 8, 8, 8, 8, 8, 8, 8, 8, 8, 8, 8, 8, 8, 8, 8, 8, 8, 8, 8, 8, 8, 8, 8, 8, 8, 8, 8, 8, 8, 8, 8, 8, 8, 8, 8, 8, 8, 8, 8, 8, 8, 8, 8, 8, 8, 8, 8, 8, 8, 8, 8, 8, 8, 8, 8, 8, 8, 8, 8, 8, 8] : List UInt8) (IntKind.u8.wrap ((Int.fdiv (Int.fdiv a0 (2 ^ 32)) (2 ^ 8))))))))))] rfl ?_
      refine J.ret ?_
      obtain rfl := Option.some.inj H
      exact ⟨_, _, _, (results_slots rfl), ⟨rfl, rfl⟩, h0.only [] rfl⟩
    replace H := ite_f c4 H
    refine J.skip ?_
    refine J.seq (J.region ?_)
    refine RJ.run ttok 3 rfl ?_
    obtain ⟨⟨p7, p8⟩, H⟩ := guard_t H
    refine RJ.q rfl rfl (q_byte ttok rfl rfl rfl rfl p7 p8) ?_
    refine RJ.run ttok 3 rfl ?_
    refine RJ.fin [(2, .int .i64 (w64 (32 + (w64 ((gtb ([0, 1, 2, 2, 3, 3, 3, 3, 4, 4, 4, 4, 4, 4, 4, 4, 5, 5, 5, 5, 5, 5, 5, 5, 5, 5, 5, 5, 5, 5, 5, 5, 6, 6, 6, 6, 6, 6, 6, 6, 6, 6, 6, 6, 6, 6, 6, 6, 6, 6, 6, 6, 6, 6, 6, 6, 6, 6, 6, 6, 6, 6, 6, 6, 7, 7, 7, 7, 7, 7, 7, 7, 7, 7, 7, 7, 7, 7, 7, 7, 7, 7, 7, 7, 7, 7, 7, 7, 7, 7, 7, 7, 7, 7, 7, 7, 7, 7, 7, 7, 7, 7, 7, 7, 7, 7, 7, 7, 7, 7, 7, 7, 7, 7, 7, 7, 7, 7, 7, 7, 7, 7, 7, 7, 7, 7, 7, 7, 8, 8, 8, 8, 8, 8, 8, 8, 8, 8, 8, 8, 8, 8, 8, 8, 8, 8, 8, 8, 8, 8, 8, 8, 8, 8, 8, 8, 8, 8, 8, 8, 8, 8, 8, 8, 8, 8, 8, 8, 8, 8, 8, 8, 8, 8, 8, 8, 8, 8, 8, 8, 8, 8, 8, 8, 8, 8, 8, 8, 8, 8, 8, 8, 8, 8, 8, 8, 8, 8, 8, 8, 8, 8, 8, 8, 8, 8, 8, 8, 8, 8, 8, 8, 8, 8, 8, 8, 8, 8, 8, 8, 8, 8, 8, 8, 8, 8, 8, 8, 8, 8, 8, 8, 8, 8, 8, 8, 8, 8, 8, 8, 8, 8, 8, 8, 8, 8, 8, 8, 8, 8, 8, 8, 8, 8, 8, 8] : List UInt8) (IntKind.u8.wrap ((Int.fdiv a0 (2 ^ 32))))))))))] rfl ?_
    refine J.ret ?_
    obtain rfl := Option.some.inj H
    exact ⟨_, _, _, (results_slots rfl), ⟨rfl, rfl⟩, h0.only [] rfl⟩
  replace H := ite_f c1 H
  refine J.skip ?_
  refine J.seq (J.seq (J.region ?_))
  refine RJ.run ttok 2 rfl ?_
  refine RJ.fin [(0, _), (2, _), (8, .bool (decide (65536 ≤ a0)))] rfl ?_
  refine J.cond rfl (fun c5 => ?_) (fun c5 => ?_)
  · replace H := ite_t c5 H
    refine J.seq (J.region ?_)
    refine RJ.run ttok 3 rfl ?_
    refine RJ.fin [(0, .int .u64 (Int.fdiv a0 (2 ^ 16))), (2, _)] rfl ?_
    refine J.region ?_
    refine RJ.run ttok 3 rfl ?_
    refine RJ.fin [(0, _), (2, .int .i64 16)] rfl ?_
    refine J.seq (J.seq (J.region ?_))
    refine RJ.run ttok 2 rfl ?_
    refine RJ.fin [(0, _), (2, _), (14, .bool (decide (256 ≤ (Int.fdiv a0 (2 ^ 16)))))] rfl ?_
    refine J.cond rfl (fun c6 => ?_) (fun c6 => ?_)
    · replace H := ite_t c6 H
      refine J.seq (J.region ?_)
      refine RJ.run ttok 3 rfl ?_
      refine RJ.fin [(0, .int .u64 (Int.fdiv (Int.fdiv a0 (2 ^ 16)) (2 ^ 8))), (2, _)] rfl ?_
      refine J.region ?_
      refine RJ.run ttok 3 rfl ?_
      refine RJ.fin [(0, _), (2, .int .i64 24)] rfl ?_
      refine J.seq (J.region ?_)
      refine RJ.run ttok 3 rfl ?_
      obtain ⟨⟨p9, p10⟩, H⟩ := guard_t H
      refine RJ.q rfl rfl (q_byte ttok rfl rfl rfl rfl p9 p10) ?_
      refine RJ.run ttok 3 rfl ?_
      refine RJ.fin [(2, .int .i64 (w64 (24 + (w64 ((gtb ([0, 1, 2, 2, 3, 3, 3, 3, 4, 4, 4, 4, 4, 4, 4, 4, 5, 5, 5, 5, 5, 5, 5, 5, 5, 5, 5, 5, 5, 5, 5, 5, 6, 6, 6, 6, 6, 6, 6, 6, 6, 6, 6, 6, 6, 6, 6, 6, 6, 6, 6, 6, 6, 6, 6, 6, 6, 6, 6, 6, 6, 6, 6, 6, 7, 7, 7, 7, 7, 7, 7, 7, 7, 7, 7, 7, 7, 7, 7, 7, 7, 7, 7, 7, 7, 7, 7, 7, 7, 7, 7, 7, 7, 7, 7, 7, 7, 7, 7, 7, 7, 7, 7, 7, 7, 7, 7, 7, 7, 7, 7, 7, 7, 7, 7, 7, 7, 7, 7, 7, 7, 7, 7, 7, 7, 7, 7, 7, 8, 8, 8, 8, 8, 8, 8, 8, 8, 8, 8, 8, 8, 8, 8, 8, 8, 8, 8, 8, 8, 8, 8, 8, 8, 8, 8, 8, 8, 8, 8, 8, 8, 8, 8, 8, 8, 8, 8, 8, 8, 8, 8, 8, 8, 8, 8, 8, 8, 8, 8, 8, 8, 8, 8, 8, 8, 8, 8, 8, 8, 8, 8, 8, 8, 8, 8, 8, 8, 8, 8, 8, 8, 8, 8, 8, 8, 8, 8, 8, 8, 8, 8, 8, 8, 8, 8, 8, 8, 8, 8, 8, 8, 8, 8, 8, 8, 8, 8, 8, 8, 8, 8, 8, 8, 8, 8, 8, 8, 8, 8, 8, 8, 8, 8, 8, 8, 8, 8, 8, 8, 8, 8, 8, 8, 8, 8, 8] : List UInt8) (IntKind.u8.wrap ((Int.fdiv (Int.fdiv a0 (2 ^ 16)) (2 ^ 8))))))))))] rfl ?_
      refine J.ret ?_
      obtain rfl := Option.some.inj H
      exact ⟨_, _, _, (results_slots rfl), ⟨rfl, rfl⟩, h0.only [] rfl⟩
    replace H := ite_f c6 H
    refine J.skip ?_
    refine J.seq (J.region ?_)
    refine RJ.run ttok 3 rfl ?_
    obtain ⟨⟨p11, p12⟩, H⟩ := guard_t H
    refine RJ.q rfl rfl (q_byte ttok rfl rfl rfl rfl p11 p12) ?_
    refine RJ.run ttok 3 rfl ?_
    refine RJ.fin [(2, .int .i64 (w64 (16 + (w64 ((gtb ([0, 1, 2, 2, 3, 3, 3, 3, 4, 4, 4, 4, 4, 4, 4, 4, 5, 5, 5, 5, 5, 5, 5, 5, 5, 5, 5, 5, 5, 5, 5, 5, 6, 6, 6, 6, 6, 6, 6, 6, 6, 6, 6, 6, 6, 6, 6, 6, 6, 6, 6, 6, 6, 6, 6, 6, 6, 6, 6, 6, 6, 6, 6, 6, 7, 7, 7, 7, 7, 7, 7, 7, 7, 7, 7, 7, 7, 7, 7, 7, 7, 7, 7, 7, 7, 7, 7, 7, 7, 7, 7, 7, 7, 7, 7, 7, 7, 7, 7, 7, 7, 7, 7, 7, 7, 7, 7, 7, 7, 7, 7, 7, 7, 7, 7, 7, 7, 7, 7, 7, 7, 7, 7, 7, 7, 7, 7, 7, 8, 8, 8, 8, 8, 8, 8, 8, 8, 8, 8, 8, 8, 8, 8, 8, 8, 8, 8, 8, 8, 8, 8, 8, 8, 8, 8, 8, 8, 8, 8, 8, 8, 8, 8, 8, 8, 8, 8, 8, 8, 8, 8, 8, 8, 8, 8, 8, 8, 8, 8, 8, 8, 8, 8, 8, 8, 8, 8, 8, 8, 8, 8, 8, 8, 8, 8, 8, 8, 8, 8, 8, 8, 8, 8, 8, 8, 8, 8, 8, 8, 8, 8, 8, 8, 8, 8, 8, 8, 8, 8, 8, 8, 8, 8, 8, 8, 8, 8, 8, 8, 8, 8, 8, 8, 8, 8, 8, 8, 8, 8, 8, 8, 8, 8, 8, 8, 8, 8, 8, 8, 8, 8, 8, 8, 8, 8, 8] : List UInt8) (IntKind.u8.wrap ((Int.fdiv a0 (2 ^ 16))))))))))] rfl ?_
    refine J.ret ?_
    obtain rfl := Option.some.inj H
    exact ⟨_, _, _, (results_slots rfl), ⟨rfl, rfl⟩, h0.only [] rfl⟩
  replace H := ite_f c5 H
  refine J.skip ?_
  refine J.seq (J.seq (J.region ?_))
  refine RJ.run ttok 2 rfl ?_
  refine RJ.fin [(0, _), (2, _), (14, .bool (decide (256 ≤ a0)))] rfl ?_
  refine J.cond rfl (fun c7 => ?_) (fun c7 => ?_)
  · replace H := ite_t c7 H
    refine J.seq (J.region ?_)
    refine RJ.run ttok 3 rfl ?_
    refine RJ.fin [(0, .int .u64 (Int.fdiv a0 (2 ^ 8))), (2, _)] rfl ?_
    refine J.region ?_
    refine RJ.run ttok 3 rfl ?_
    refine RJ.fin [(0, _), (2, .int .i64 8)] rfl ?_
    refine J.seq (J.region ?_)
    refine RJ.run ttok 3 rfl ?_
    obtain ⟨⟨p13, p14⟩, H⟩ := guard_t H
    refine RJ.q rfl rfl (q_byte ttok rfl rfl rfl rfl p13 p14) ?_
    refine RJ.run ttok 3 rfl ?_
    refine RJ.fin [(2, .int .i64 (w64 (8 + (w64 ((gtb ([0, 1, 2, 2, 3, 3, 3, 3, 4, 4, 4, 4, 4, 4, 4, 4, 5, 5, 5, 5, 5, 5, 5, 5, 5, 5, 5, 5, 5, 5, 5, 5, 6, 6, 6, 6, 6, 6, 6, 6, 6, 6, 6, 6, 6, 6, 6, 6, 6, 6, 6, 6, 6, 6, 6, 6, 6, 6, 6, 6, 6, 6, 6, 6, 7, 7, 7, 7, 7, 7, 7, 7, 7, 7, 7, 7, 7, 7, 7, 7, 7, 7, 7, 7, 7, 7, 7, 7, 7, 7, 7, 7, 7, 7, 7, 7, 7, 7, 7, 7, 7, 7, 7, 7, 7, 7, 7, 7, 7, 7, 7, 7, 7, 7, 7, 7, 7, 7, 7, 7, 7, 7, 7, 7, 7, 7, 7, 7, 8, 8, 8, 8, 8, 8, 8, 8, 8, 8, 8, 8, 8, 8, 8, 8, 8, 8, 8, 8, 8, 8, 8, 8, 8, 8, 8, 8, 8, 8, 8, 8, 8, 8, 8, 8, 8, 8, 8, 8, 8, 8, 8, 8, 8, 8, 8, 8, 8, 8, 8, 8, 8, 8, 8, 8, 8, 8, 8, 8, 8, 8, 8, 8, 8, 8, 8, 8, 8, 8, 8, 8, 8, 8, 8, 8, 8, 8, 8, 8, 8, 8, 8, 8, 8, 8, 8, 8, 8, 8, 8, 8, 8, 8, 8, 8, 8, 8, 8, 8, 8, 8, 8, 8, 8, 8, 8, 8, 8, 8, 8, 8, 8, 8, 8, 8, 8, 8, 8, 8, 8, 8, 8, 8, 8, 8, 8, 8] : List UInt8) (IntKind.u8.wrap ((Int.fdiv a0 (2 ^ 8))))))))))] rfl ?_
    refine J.ret ?_
    obtain rfl := Option.some.inj H
    exact ⟨_, _, _, (results_slots rfl), ⟨rfl, rfl⟩, h0.only [] rfl⟩
  replace H := ite_f c7 H
  refine J.skip ?_
  refine J.seq (J.region ?_)
  refine RJ.run ttok 3 rfl ?_
  obtain ⟨⟨p15, p16⟩, H⟩ := guard_t H
  refine RJ.q rfl rfl (q_byte ttok rfl rfl rfl rfl p15 p16) ?_
  refine RJ.run ttok 3 rfl ?_
  refine RJ.fin [(2, .int .i64 (w64 (0 + (w64 ((gtb ([0, 1, 2, 2, 3, 3, 3, 3, 4, 4, 4, 4, 4, 4, 4, 4, 5, 5, 5, 5, 5, 5, 5, 5, 5, 5, 5, 5, 5, 5, 5, 5, 6, 6, 6, 6, 6, 6, 6, 6, 6, 6, 6, 6, 6, 6, 6, 6, 6, 6, 6, 6, 6, 6, 6, 6, 6, 6, 6, 6, 6, 6, 6, 6, 7, 7, 7, 7, 7, 7, 7, 7, 7, 7, 7, 7, 7, 7, 7, 7, 7, 7, 7, 7, 7, 7, 7, 7, 7, 7, 7, 7, 7, 7, 7, 7, 7, 7, 7, 7, 7, 7, 7, 7, 7, 7, 7, 7, 7, 7, 7, 7, 7, 7, 7, 7, 7, 7, 7, 7, 7, 7, 7, 7, 7, 7, 7, 7, 8, 8, 8, 8, 8, 8, 8, 8, 8, 8, 8, 8, 8, 8, 8, 8, 8, 8, 8, 8, 8, 8, 8, 8, 8, 8, 8, 8, 8, 8, 8, 8, 8, 8, 8, 8, 8, 8, 8, 8, 8, 8, 8, 8, 8, 8, 8, 8, 8, 8, 8, 8, 8, 8, 8, 8, 8, 8, 8, 8, 8, 8, 8, 8, 8, 8, 8, 8, 8, 8, 8, 8, 8, 8, 8, 8, 8, 8, 8, 8, 8, 8, 8, 8, 8, 8, 8, 8, 8, 8, 8, 8, 8, 8, 8, 8, 8, 8, 8, 8, 8, 8, 8, 8, 8, 8, 8, 8, 8, 8, 8, 8, 8, 8, 8, 8, 8, 8, 8, 8, 8, 8, 8, 8, 8, 8, 8, 8] : List UInt8) (IntKind.u8.wrap (a0))))))))] rfl ?_
  refine J.ret ?_
  obtain rfl := Option.some.inj H
  exact ⟨_, _, _, (results_slots rfl), ⟨rfl, rfl⟩, h0.only [] rfl⟩

/-! math/bits.Len -/
def bits_Len.f (a0 : Int) : Option (Int) := (bits_Len64.f a0).bind fun r1 => (some r1)
set_option maxRecDepth 20000 in
set_option maxHeartbeats 40000000 in
theorem bits_Len.spec {a0 : Int}  {r : Int} (H : bits_Len.f a0 = some r) :
    Spec Try.prog 125 [.int .u64 a0] [] [] (fun v l => v = .int .i64 r ∧ l = []) := by
  refine Spec.enter Try.func125 rfl (by kernel_rfl) (by kernel_rfl) fun w0 F0 h0 => ?_
  unfold bits_Len.f at H
  refine J.seq (J.region ?_)
  refine RJ.run ttok 1 rfl ?_
  refine RJ.fin [(0, .int .u64 a0)] rfl ?_
  refine J.seq ?_
  refine J.condF rfl ?_
  refine J.skip ?_
  refine J.seq (J.region ?_)
  refine RJ.run ttok 1 rfl ?_
  obtain ⟨r1, q1, H⟩ := bind_t H
  refine RJ.op rfl rfl (op_call [] (bits_Len64.spec q1) rfl rfl rfl h0 rfl gnil) ?_
  rintro _ w1 ⟨_, ⟨rfl, rfl⟩, h1⟩
  replace h1 : St w0 F0 [] _ _ := h1
  refine RJ.run ttok 1 rfl ?_
  refine RJ.fin [(2, .int .i64 r1)] rfl ?_
  refine J.ret ?_
  obtain rfl := Option.some.inj H
  exact ⟨_, _, _, (results_slots rfl), ⟨rfl, rfl⟩, h1.only [] rfl⟩

/-! cmp.isNaN[uint32] -/
def cmp_isNaN_uint32.f (a0 : Int) : Option (Bool) := some (!decide (a0 = a0))
set_option maxRecDepth 20000 in
set_option maxHeartbeats 40000000 in
theorem cmp_isNaN_uint32.spec {a0 : Int}  {r : Bool} (H : cmp_isNaN_uint32.f a0 = some r) :
    Spec Try.prog 142 [.int .u32 a0] [] [] (fun v l => v = .bool r ∧ l = []) := by
  refine Spec.enter Try.func142 rfl (by kernel_rfl) (by kernel_rfl) fun w0 F0 h0 => ?_
  unfold cmp_isNaN_uint32.f at H
  refine J.seq (J.region ?_)
  refine RJ.run ttok 1 rfl ?_
  refine RJ.fin [(0, .int .u32 a0)] rfl ?_
  refine J.seq (J.region ?_)
  refine RJ.run ttok 4 rfl ?_
  refine RJ.fin [(2, .bool (!decide (a0 = a0)))] rfl ?_
  refine J.ret ?_
  obtain rfl := Option.some.inj H
  exact ⟨_, _, _, (results_slots rfl), ⟨rfl, rfl⟩, h0.only [] rfl⟩

/-! cmp.Less[uint32] -/
def cmp_Less_uint32.f (a0 : Int) (a1 : Int) : Option (Bool) := (cmp_isNaN_uint32.f a0).bind fun r1 => (if r1 = true then ((cmp_isNaN_uint32.f a1).bind fun r2 => (if (!r2) = true then (some true) else (some (decide (a0 < a1))))) else (some (decide (a0 < a1))))
set_option maxRecDepth 20000 in
set_option maxHeartbeats 40000000 in
theorem cmp_Less_uint32.spec {a0 : Int} {a1 : Int}  {r : Bool} (H : cmp_Less_uint32.f a0 a1 = some r) :
    Spec Try.prog 132 [.int .u32 a0, .int .u32 a1] [] [] (fun v l => v = .bool r ∧ l = []) := by
  refine Spec.enter Try.func132 rfl (by kernel_rfl) (by kernel_rfl) fun w0 F0 h0 => ?_
  unfold cmp_Less_uint32.f at H
  refine J.seq (J.region ?_)
  refine RJ.run ttok 1 rfl ?_
  refine RJ.fin [(0, .int .u32 a0), (1, .int .u32 a1)] rfl ?_
  refine J.seq (J.region ?_)
  refine RJ.run ttok 1 rfl ?_
  obtain ⟨r1, q1, H⟩ := bind_t H
  refine RJ.op rfl rfl (op_call [] (cmp_isNaN_uint32.spec q1) rfl rfl rfl h0 rfl gnil) ?_
  rintro _ w1 ⟨_, ⟨rfl, rfl⟩, h1⟩
  replace h1 : St w0 F0 [] _ _ := h1
  refine RJ.run ttok 1 rfl ?_
  rcases Bool.eq_false_or_eq_true r1 with c1 | c1
  · replace H := ite_t c1 H
    refine RJ.know (t := 7) rfl (congrArg Value.bool c1) ?_
    refine RJ.run ttok 1 rfl ?_
    obtain ⟨r2, q2, H⟩ := bind_t H
    refine RJ.op rfl rfl (op_call [] (cmp_isNaN_uint32.spec q2) rfl rfl rfl h1 rfl gnil) ?_
    rintro _ w2 ⟨_, ⟨rfl, rfl⟩, h2⟩
    replace h2 : St w0 F0 [] _ _ := h2
    refine RJ.run ttok 3 rfl ?_
    rcases Bool.eq_false_or_eq_true (!r2) with c2 | c2
    · replace H := ite_t c2 H
      refine RJ.know (t := 12) rfl (congrArg Value.bool c2) ?_
      refine RJ.run ttok 5 rfl ?_
      refine RJ.fin [(4, .bool true)] rfl ?_
      refine J.ret ?_
      obtain rfl := Option.some.inj H
      exact ⟨_, _, _, (results_slots rfl), ⟨rfl, rfl⟩, h2.only [] rfl⟩
    replace H := ite_f c2 H
    refine RJ.know (t := 12) rfl (congrArg Value.bool c2) ?_
    refine RJ.run ttok 5 rfl ?_
    refine RJ.fin [(4, .bool (decide (a0 < a1)))] rfl ?_
    refine J.ret ?_
    obtain rfl := Option.some.inj H
    exact ⟨_, _, _, (results_slots rfl), ⟨rfl, rfl⟩, h2.only [] rfl⟩
  replace H := ite_f c1 H
  refine RJ.know (t := 7) rfl (congrArg Value.bool c1) ?_
  refine RJ.run ttok 10 rfl ?_
  refine RJ.fin [(4, .bool (decide (a0 < a1)))] rfl ?_
  refine J.ret ?_
  obtain rfl := Option.some.inj H
  exact ⟨_, _, _, (results_slots rfl), ⟨rfl, rfl⟩, h1.only [] rfl⟩

/-! slices.insertionSortOrdered[uint32] -/
mutual
def slices_insertionSortOrdered_uint32.l0 : Nat → (Int) → (Int) → (List (Int)) → (Int) → Option (List (Int))
  | 0, _, _, _, _ => none
  | k + 1, a1, a2, x1, x2 => if (decide (x2 < a2)) = true then (slices_insertionSortOrdered_uint32.l1 k a1 a2 x2 x1 x2) else (some x1)
def slices_insertionSortOrdered_uint32.l1 : Nat → (Int) → (Int) → (Int) → (List (Int)) → (Int) → Option (List (Int))
  | 0, _, _, _, _, _ => none
  | k + 1, a1, a2, x2, x3, x4 => if (decide (a1 < x4)) = true then (if 0 ≤ x4 ∧ x4 < (x3.length : Int) then (if 0 ≤ (w64 (x4 - 1)) ∧ (w64 (x4 - 1)) < (x3.length : Int) then ((cmp_Less_uint32.f (gt x3 x4) (gt x3 (w64 (x4 - 1)))).bind fun r1 => (if r1 = true then (slices_insertionSortOrdered_uint32.l1 k a1 a2 x2 ((x3.set x4.toNat (gt x3 (w64 (x4 - 1)))).set (w64 (x4 - 1)).toNat (gt x3 x4)) (w64 (x4 - 1))) else (slices_insertionSortOrdered_uint32.l0 k a1 a2 x3 (w64 (x2 + 1))))) else none) else none) else (slices_insertionSortOrdered_uint32.l0 k a1 a2 x3 (w64 (x2 + 1)))
end
def slices_insertionSortOrdered_uint32.f (k : Nat) (a0 : List (Int)) (a1 : Int) (a2 : Int) : Option (List (Int)) := slices_insertionSortOrdered_uint32.l0 k a1 a2 a0 (w64 (a1 + 1))
set_option maxRecDepth 20000 in
set_option maxHeartbeats 40000000 in
theorem slices_insertionSortOrdered_uint32.spec {k : Nat} {a0 : List (Int)} {a1 : Int} {a2 : Int} {A1 : Option Addr} {c_1 : Nat} {r : List (Int)} (H : slices_insertionSortOrdered_uint32.f k a0 a1 a2 = some r) :
    Spec Try.prog 126 [.slice A1 a0.length c_1, .int .i64 a1, .int .i64 a2] [ownC 46 (.int .u32) a0 (.slice A1 a0.length c_1)] [] (fun v l => v = .tuple #[] ∧ l = [ownC 46 (.int .u32) r (.slice A1 r.length c_1)] ∧ r.length = a0.length) := by
  refine Spec.enter Try.func126 rfl (by kernel_rfl) (by kernel_rfl) fun w0 F0 h0 => ?_
  unfold slices_insertionSortOrdered_uint32.f at H
  refine J.seq (J.region ?_)
  refine RJ.run ttok 3 rfl ?_
  refine RJ.fin [(0, .slice A1 a0.length c_1), (1, .int .i64 a1), (2, .int .i64 a2), (6, .int .i64 (w64 (a1 + 1)))] rfl ?_
  refine J.block ?_
  have h17 := ((h0.only [0] rfl).rds [] rfl)
  refine J.loop (fun kk env w => ∃ (x1 : List (Int)) (x2 : Int), env = [(0, .slice A1 x1.length c_1), (1, .int .i64 a1), (2, .int .i64 a2), (6, .int .i64 x2)] ∧ St w0 F0 [ownC 46 (.int .u32) x1 (.slice A1 x1.length c_1)] [] w ∧ slices_insertionSortOrdered_uint32.l0 kk a1 a2 x1 x2 = some r ∧ x1.length = a0.length) (k := k) ⟨a0, (w64 (a1 + 1)), rfl, h17, H, (rfl : a0.length = a0.length)⟩ ?_
  rintro k1 env w1 ⟨x1, x2, rfl, h1, H, e1⟩
  cases k1 with
  | zero => exact nomatch (show none = some r from H)
  | succ k1 =>
    rw [slices_insertionSortOrdered_uint32.l0] at H
    refine J.seq (J.seq (J.region ?_))
    refine RJ.run ttok 3 rfl ?_
    refine RJ.fin [(0, _), (1, _), (2, _), (6, _), (12, .bool (decide (x2 < a2)))] rfl ?_
    refine J.cond rfl (fun c1 => ?_) (fun c1 => ?_)
    · replace H := ite_t c1 H
      refine J.skip ?_
      refine J.seq (J.block (J.seq (J.region ?_)))
      refine RJ.run ttok 2 rfl ?_
      refine RJ.fin [(0, _), (1, _), (2, _), (6, _), (7, .int .i64 x2)] rfl ?_
      refine J.block ?_
      have h16 := ((h1.only [0] rfl).rds [] rfl)
      refine J.loop (fun kk env w => ∃ (x3 : List (Int)) (x4 : Int), env = [(0, .slice A1 x3.length c_1), (1, .int .i64 a1), (2, .int .i64 a2), (6, .int .i64 x2), (7, .int .i64 x4)] ∧ St w0 F0 [ownC 46 (.int .u32) x3 (.slice A1 x3.length c_1)] [] w ∧ slices_insertionSortOrdered_uint32.l1 kk a1 a2 x2 x3 x4 = some r ∧ kk ≤ k1 ∧ x3.length = a0.length) (k := k1) ⟨x1, x2, rfl, h16, H, Nat.le_refl _, e1⟩ ?_
      rintro k2 env w2 ⟨x3, x4, rfl, h2, H, hk2, e2⟩
      cases k2 with
      | zero => exact nomatch (show none = some r from H)
      | succ k2 =>
        rw [slices_insertionSortOrdered_uint32.l1] at H
        refine J.seq (J.seq ?_)
        refine J.heldSt mix h2 ?_
        have h3 := h2.drew
        refine HJ.run ttok rfl [0, 1, 2, 3] rfl ?_
        rcases Bool.eq_false_or_eq_true (decide (a1 < x4)) with c2 | c2
        · replace H := ite_t c2 H
          refine HJ.know (t := 19) rfl (congrArg Value.bool c2) ?_
          refine HJ.run ttok rfl [4, 5, 8, 9, 10] rfl ?_
          obtain ⟨⟨p1, p2⟩, H⟩ := guard_t H
          have e3 := elem_A h3.wh (Gives.of 0 rfl own_rd) p1 p2
          refine HJ.q (i := 6) rfl rfl rfl rfl rfl rfl (q_index ttok rfl rfl rfl rfl rfl e3 p1 p2) ?_
          refine HJ.q (i := 7) rfl rfl rfl rfl rfl rfl (q_load_elem (f := 0) ttok rfl (fun w e => e) (Gives.of 0 rfl own_rd) p1 p2 rfl rfl rfl rfl rfl) ?_
          obtain ⟨⟨p3, p4⟩, H⟩ := guard_t H
          refine HJ.q (i := 11) rfl rfl rfl rfl rfl rfl (q_index ttok rfl rfl rfl rfl rfl e3 p3 p4) ?_
          refine HJ.q (i := 12) rfl rfl rfl rfl rfl rfl (q_load_elem (f := 0) ttok rfl (fun w e => e) (Gives.of 0 rfl own_rd) p3 p4 rfl rfl rfl rfl rfl) ?_
          obtain ⟨r1, q1, H⟩ := bind_t H
          refine HJ.op (i := 13) rfl rfl rfl rfl rfl (op_call [] (cmp_Less_uint32.spec q1) rfl rfl rfl h3 rfl gnil) ?_
          rintro _ w3 ⟨_, ⟨rfl, rfl⟩, h4⟩
          replace h4 : St w0 F0 [_] _ _ := h4
          refine ⟨⟨[], h4⟩, ?_⟩
          refine HJ.run ttok rfl [14] rfl ?_
          refine HJ.fin [(0, _), (1, _), (2, _), (6, _), (7, _), (30, .bool r1)] rfl rfl ?_
          refine J.cond rfl (fun c3 => ?_) (fun c3 => ?_)
          · replace H := ite_t c3 H
            refine J.skip ?_
            refine J.seq (J.block ?_)
            refine J.mid (fun env w => env = [(0, .slice A1 ((x3.set x4.toNat (gt x3 (w64 (x4 - 1)))).set (w64 (x4 - 1)).toNat (gt x3 x4)).length c_1), (1, .int .i64 a1), (2, .int .i64 a2), (6, .int .i64 x2), (7, .int .i64 x4)] ∧ St w0 F0 [ownC 46 (.int .u32) ((x3.set x4.toNat (gt x3 (w64 (x4 - 1)))).set (w64 (x4 - 1)).toNat (gt x3 x4)) (.slice A1 ((x3.set x4.toNat (gt x3 (w64 (x4 - 1)))).set (w64 (x4 - 1)).toNat (gt x3 x4)).length c_1)] [] w) ?_ ?_
            · refine J.heldSt mix (h4.only [] rfl) ?_
              have h7 := h4.drew
              refine HJ.run ttok rfl [0, 1, 2, 3, 4, 5, 6, 7, 10, 11] rfl ?_
              refine HJ.q (i := 8) rfl rfl rfl rfl rfl rfl (q_index ttok rfl rfl rfl rfl rfl e3 p3 p4) ?_
              refine HJ.q (i := 12) rfl rfl rfl rfl rfl rfl (q_index ttok rfl rfl rfl rfl rfl e3 p1 p2) ?_
              refine HJ.pick [9, 13] (i := 9) rfl rfl rfl rfl ?_
              refine (hscons ?_ (hscons ?_ hsnil))
              · refine HS.op (i := 9) rfl rfl rfl (OpT.ofq (q_load_elem (f := 0) ttok rfl h7.wht (Gives.of 0 rfl own_rd) p3 p4 rfl rfl rfl rfl rfl)) ?_
                rintro _ _ ⟨rfl, rfl⟩
                replace h7 : St w0 F0 [_] _ _ := h7
                refine ⟨⟨[_], h7⟩, ?_⟩
                refine HJ.op (i := 13) rfl rfl rfl rfl rfl (OpT.ofq (q_load_elem (f := 0) ttok rfl h7.wht (Gives.of 0 rfl own_rd) p1 p2 rfl rfl rfl rfl rfl)) ?_
                rintro _ _ ⟨rfl, rfl⟩
                replace h7 : St w0 F0 [_] _ _ := h7
                refine ⟨⟨[_], h7⟩, ?_⟩
                refine HJ.q (i := 14) rfl rfl rfl rfl rfl rfl (q_index ttok rfl rfl rfl rfl rfl e3 p1 p2) ?_
                refine HJ.op (i := 15) rfl rfl rfl rfl rfl (op_store_elem (ty := (.int .u32)) (f := 0) (ix := x4) ttok rfl (gt x3 (w64 (x4 - 1))) 0 rfl h7 rfl rfl p1 p2 rfl rfl rfl rfl rfl rfl rfl) ?_
                intro _ w6 h8
                replace h8 : St w0 F0 [ownC 46 (.int .u32) (x3.set x4.toNat (gt x3 (w64 (x4 - 1)))) (.slice A1 (x3.set x4.toNat (gt x3 (w64 (x4 - 1)))).length c_1)] _ _ := h8
                refine ⟨⟨[_], h8⟩, ?_⟩
                have e6 : (x3.set x4.toNat (gt x3 (w64 (x4 - 1)))).length = a0.length := List.length_set.trans e2
                refine HJ.q (i := 16) rfl rfl rfl rfl rfl rfl (q_index ttok rfl rfl rfl rfl rfl e3 p3 p4) ?_
                refine HJ.op (i := 17) rfl rfl rfl rfl rfl (op_store_elem (ty := (.int .u32)) (f := 0) (ix := (w64 (x4 - 1))) ttok rfl (gt x3 x4) 0 rfl h8 rfl rfl p3 (by simpa only [List.length_set] using p4) rfl rfl rfl rfl rfl rfl rfl) ?_
                intro _ w7 h9
                replace h9 : St w0 F0 [ownC 46 (.int .u32) ((x3.set x4.toNat (gt x3 (w64 (x4 - 1)))).set (w64 (x4 - 1)).toNat (gt x3 x4)) (.slice A1 ((x3.set x4.toNat (gt x3 (w64 (x4 - 1)))).set (w64 (x4 - 1)).toNat (gt x3 x4)).length c_1)] _ _ := h9
                refine ⟨⟨[_], h9⟩, ?_⟩
                have e7 : ((x3.set x4.toNat (gt x3 (w64 (x4 - 1)))).set (w64 (x4 - 1)).toNat (gt x3 x4)).length = a0.length := List.length_set.trans e6
                refine HJ.fin [(0, .slice A1 x3.length c_1), (1, .int .i64 a1), (2, .int .i64 a2), (6, .int .i64 x2), (7, .int .i64 x4)] rfl rfl ?_
                exact thenP_intro ⟨(by simp only [List.length_set]), ((h9.only [0] rfl).rds [] rfl)⟩
              · refine HS.op (i := 13) rfl rfl rfl (OpT.ofq (q_load_elem (f := 0) ttok rfl h7.wht (Gives.of 0 rfl own_rd) p1 p2 rfl rfl rfl rfl rfl)) ?_
                rintro _ _ ⟨rfl, rfl⟩
                replace h7 : St w0 F0 [_] _ _ := h7
                refine ⟨⟨[_], h7⟩, ?_⟩
                refine HJ.op (i := 9) rfl rfl rfl rfl rfl (OpT.ofq (q_load_elem (f := 0) ttok rfl h7.wht (Gives.of 0 rfl own_rd) p3 p4 rfl rfl rfl rfl rfl)) ?_
                rintro _ _ ⟨rfl, rfl⟩
                replace h7 : St w0 F0 [_] _ _ := h7
                refine ⟨⟨[_], h7⟩, ?_⟩
                refine HJ.q (i := 14) rfl rfl rfl rfl rfl rfl (q_index ttok rfl rfl rfl rfl rfl e3 p1 p2) ?_
                refine HJ.op (i := 15) rfl rfl rfl rfl rfl (op_store_elem (ty := (.int .u32)) (f := 0) (ix := x4) ttok rfl (gt x3 (w64 (x4 - 1))) 0 rfl h7 rfl rfl p1 p2 rfl rfl rfl rfl rfl rfl rfl) ?_
                intro _ w8 h10
                replace h10 : St w0 F0 [ownC 46 (.int .u32) (x3.set x4.toNat (gt x3 (w64 (x4 - 1)))) (.slice A1 (x3.set x4.toNat (gt x3 (w64 (x4 - 1)))).length c_1)] _ _ := h10
                refine ⟨⟨[_], h10⟩, ?_⟩
                have e8 : (x3.set x4.toNat (gt x3 (w64 (x4 - 1)))).length = a0.length := List.length_set.trans e2
                refine HJ.q (i := 16) rfl rfl rfl rfl rfl rfl (q_index ttok rfl rfl rfl rfl rfl e3 p3 p4) ?_
                refine HJ.op (i := 17) rfl rfl rfl rfl rfl (op_store_elem (ty := (.int .u32)) (f := 0) (ix := (w64 (x4 - 1))) ttok rfl (gt x3 x4) 0 rfl h10 rfl rfl p3 (by simpa only [List.length_set] using p4) rfl rfl rfl rfl rfl rfl rfl) ?_
                intro _ w9 h11
                replace h11 : St w0 F0 [ownC 46 (.int .u32) ((x3.set x4.toNat (gt x3 (w64 (x4 - 1)))).set (w64 (x4 - 1)).toNat (gt x3 x4)) (.slice A1 ((x3.set x4.toNat (gt x3 (w64 (x4 - 1)))).set (w64 (x4 - 1)).toNat (gt x3 x4)).length c_1)] _ _ := h11
                refine ⟨⟨[_], h11⟩, ?_⟩
                have e9 : ((x3.set x4.toNat (gt x3 (w64 (x4 - 1)))).set (w64 (x4 - 1)).toNat (gt x3 x4)).length = a0.length := List.length_set.trans e8
                refine HJ.fin [(0, .slice A1 x3.length c_1), (1, .int .i64 a1), (2, .int .i64 a2), (6, .int .i64 x2), (7, .int .i64 x4)] rfl rfl ?_
                exact thenP_intro ⟨(by simp only [List.length_set]), ((h11.only [0] rfl).rds [] rfl)⟩
            rintro env w10 ⟨rfl, h12⟩
            have e10 : ((x3.set x4.toNat (gt x3 (w64 (x4 - 1)))).set (w64 (x4 - 1)).toNat (gt x3 x4)).length = a0.length := by first | (simp only [List.length_set]; done) | (simp only [List.length_set]; exact e2)
            refine J.region ?_
            refine RJ.run ttok 3 rfl ?_
            refine RJ.fin [(0, .slice A1 ((x3.set x4.toNat (gt x3 (w64 (x4 - 1)))).set (w64 (x4 - 1)).toNat (gt x3 x4)).length c_1), (1, _), (2, _), (6, _), (7, .int .i64 (w64 (x4 - 1)))] rfl ?_
            have h13 := ((h12.only [0] rfl).rds [] rfl)
            exact ⟨k2, by omega, ((x3.set x4.toNat (gt x3 (w64 (x4 - 1)))).set (w64 (x4 - 1)).toNat (gt x3 x4)), (w64 (x4 - 1)), rfl, h13, H, by omega, e10⟩
          replace H := ite_f c3 H
          refine J.exit ?_
          refine J.region ?_
          refine RJ.run ttok 3 rfl ?_
          refine RJ.fin [(0, _), (1, _), (2, _), (6, .int .i64 (w64 (x2 + 1)))] rfl ?_
          have h14 := ((h4.only [0] rfl).rds [] rfl)
          exact ⟨k2, by omega, x3, (w64 (x2 + 1)), rfl, h14, H, e2⟩
        replace H := ite_f c2 H
        refine HJ.know (t := 19) rfl (congrArg Value.bool c2) ?_
        refine HJ.run ttok rfl [4, 5, 6, 7, 8, 9, 10, 11, 12, 13, 14] rfl ?_
        refine HJ.fin [(0, _), (1, _), (2, _), (6, _), (7, _), (30, .bool false)] rfl rfl ?_
        refine J.condF rfl ?_
        refine J.exit ?_
        refine J.region ?_
        refine RJ.run ttok 3 rfl ?_
        refine RJ.fin [(0, _), (1, _), (2, _), (6, .int .i64 (w64 (x2 + 1)))] rfl ?_
        have h15 := ((h3.only [0] rfl).rds [] rfl)
        exact ⟨k2, by omega, x3, (w64 (x2 + 1)), rfl, h15, H, e2⟩
    replace H := ite_f c1 H
    refine J.exit ?_
    obtain rfl := Option.some.inj H
    exact ⟨_, _, _, (results_slots rfl), ⟨rfl, rfl, e1⟩, h1.only [0] rfl⟩

end Go.SK.T
