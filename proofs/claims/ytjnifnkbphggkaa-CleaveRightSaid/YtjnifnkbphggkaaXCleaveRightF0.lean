/- The types of the program, and its functions as the code computes them, each proved. -/
import Derived.Test.YtjnifnkbphggkaaKq
import Derived.Test.YtjnifnkbphggkaaProg
set_option linter.unusedVariables false
set_option linter.unusedSimpArgs false
namespace Go.SK.T
open Go Go.SK Go.Proofs
def tt : TT := [(1, ⟨.func, 1, 8, .nilFunc⟩),
  (2, ⟨.int .i64, 1, 8, .int .i64 0⟩),
  (3, ⟨.int .i64, 1, 8, .int .i64 0⟩),
  (4, ⟨.bool, 1, 1, .bool false⟩),
  (5, ⟨.int .u8, 1, 1, .int .u8 0⟩),
  (6, ⟨.int .u8, 1, 1, .int .u8 0⟩),
  (9, ⟨.str, 1, 16, .string ⟨⟨[]⟩⟩⟩),
  (10, ⟨.str, 1, 16, .string ⟨⟨[]⟩⟩⟩),
  (11, ⟨.str, 1, 16, .string ⟨⟨[]⟩⟩⟩),
  (12, ⟨.int .u64, 1, 8, .int .u64 0⟩),
  (15, ⟨.ptr 157, 1, 8, .pointer none⟩),
  (16, ⟨.ptr 160, 1, 8, .pointer none⟩),
  (17, ⟨.ptr 168, 1, 8, .pointer none⟩),
  (20, ⟨.iface, 1, 16, .nilIface⟩),
  (21, ⟨.int .i32, 1, 4, .int .i32 0⟩),
  (22, ⟨.struct [(3, 0, 1), (3, 1, 1), (3, 2, 1), (3, 3, 1), (3, 4, 1), (3, 5, 1), (3, 6, 1), (3, 7, 1)], 8, 64, .agg #[.int .i64 0, .int .i64 0, .int .i64 0, .int .i64 0, .int .i64 0, .int .i64 0, .int .i64 0, .int .i64 0]⟩),
  (23, ⟨.struct [(3, 0, 1), (3, 1, 1), (3, 2, 1), (3, 3, 1), (3, 4, 1), (3, 5, 1), (3, 6, 1), (3, 7, 1)], 8, 64, .agg #[.int .i64 0, .int .i64 0, .int .i64 0, .int .i64 0, .int .i64 0, .int .i64 0, .int .i64 0, .int .i64 0]⟩),
  (24, ⟨.struct [(9, 0, 1), (9, 1, 1), (4, 2, 1)], 3, 40, .agg #[.string ⟨⟨[]⟩⟩, .string ⟨⟨[]⟩⟩, .bool false]⟩),
  (25, ⟨.struct [(9, 0, 1), (9, 1, 1), (4, 2, 1)], 3, 40, .agg #[.string ⟨⟨[]⟩⟩, .string ⟨⟨[]⟩⟩, .bool false]⟩),
  (26, ⟨.slice 46, 1, 24, .slice none 0 0⟩),
  (27, ⟨.slice 9, 1, 24, .slice none 0 0⟩),
  (28, ⟨.slice 48, 1, 24, .slice none 0 0⟩),
  (29, ⟨.slice 50, 1, 24, .slice none 0 0⟩),
  (30, ⟨.struct [(3, 0, 1), (26, 1, 1), (27, 2, 1), (28, 3, 1), (29, 4, 1)], 5, 104, .agg #[.int .i64 0, .slice none 0 0, .slice none 0 0, .slice none 0 0, .slice none 0 0]⟩),
  (31, ⟨.struct [(3, 0, 1), (26, 1, 1), (27, 2, 1), (28, 3, 1), (29, 4, 1)], 5, 104, .agg #[.int .i64 0, .slice none 0 0, .slice none 0 0, .slice none 0 0, .slice none 0 0]⟩),
  (32, ⟨.func, 1, 8, .nilFunc⟩),
  (33, ⟨.func, 1, 8, .nilFunc⟩),
  (35, ⟨.func, 1, 8, .nilFunc⟩),
  (37, ⟨.func, 1, 8, .nilFunc⟩),
  (38, ⟨.func, 1, 8, .nilFunc⟩),
  (39, ⟨.func, 1, 8, .nilFunc⟩),
  (40, ⟨.func, 1, 8, .nilFunc⟩),
  (41, ⟨.func, 1, 8, .nilFunc⟩),
  (42, ⟨.func, 1, 8, .nilFunc⟩),
  (43, ⟨.func, 1, 8, .nilFunc⟩),
  (44, ⟨.func, 1, 8, .nilFunc⟩),
  (45, ⟨.func, 1, 8, .nilFunc⟩),
  (46, ⟨.int .u32, 1, 4, .int .u32 0⟩),
  (47, ⟨.struct [(9, 0, 1), (4, 1, 1), (9, 2, 1)], 3, 40, .agg #[.string ⟨⟨[]⟩⟩, .bool false, .string ⟨⟨[]⟩⟩]⟩),
  (48, ⟨.struct [(9, 0, 1), (4, 1, 1), (9, 2, 1)], 3, 40, .agg #[.string ⟨⟨[]⟩⟩, .bool false, .string ⟨⟨[]⟩⟩]⟩),
  (49, ⟨.struct [(9, 0, 1), (9, 1, 1)], 2, 32, .agg #[.string ⟨⟨[]⟩⟩, .string ⟨⟨[]⟩⟩]⟩),
  (50, ⟨.struct [(9, 0, 1), (9, 1, 1)], 2, 32, .agg #[.string ⟨⟨[]⟩⟩, .string ⟨⟨[]⟩⟩]⟩),
  (51, ⟨.slice 3, 1, 24, .slice none 0 0⟩),
  (52, ⟨.func, 1, 8, .nilFunc⟩),
  (54, ⟨.func, 1, 8, .nilFunc⟩),
  (55, ⟨.map 3 4, 1, 8, .map none⟩),
  (56, ⟨.func, 1, 8, .nilFunc⟩),
  (57, ⟨.func, 1, 8, .nilFunc⟩),
  (59, ⟨.func, 1, 8, .nilFunc⟩),
  (60, ⟨.func, 1, 8, .nilFunc⟩),
  (61, ⟨.func, 1, 8, .nilFunc⟩),
  (62, ⟨.func, 1, 8, .nilFunc⟩),
  (63, ⟨.func, 1, 8, .nilFunc⟩),
  (64, ⟨.func, 1, 8, .nilFunc⟩),
  (65, ⟨.func, 1, 8, .nilFunc⟩),
  (67, ⟨.func, 1, 8, .nilFunc⟩),
  (68, ⟨.func, 1, 8, .nilFunc⟩),
  (69, ⟨.func, 1, 8, .nilFunc⟩),
  (71, ⟨.func, 1, 8, .nilFunc⟩),
  (72, ⟨.func, 1, 8, .nilFunc⟩),
  (73, ⟨.func, 1, 8, .nilFunc⟩),
  (74, ⟨.func, 1, 8, .nilFunc⟩),
  (75, ⟨.func, 1, 8, .nilFunc⟩),
  (76, ⟨.func, 1, 8, .nilFunc⟩),
  (78, ⟨.func, 1, 8, .nilFunc⟩),
  (79, ⟨.func, 1, 8, .nilFunc⟩),
  (80, ⟨.func, 1, 8, .nilFunc⟩),
  (81, ⟨.func, 1, 8, .nilFunc⟩),
  (82, ⟨.func, 1, 8, .nilFunc⟩),
  (83, ⟨.func, 1, 8, .nilFunc⟩),
  (84, ⟨.func, 1, 8, .nilFunc⟩),
  (85, ⟨.func, 1, 8, .nilFunc⟩),
  (86, ⟨.func, 1, 8, .nilFunc⟩),
  (87, ⟨.func, 1, 8, .nilFunc⟩),
  (88, ⟨.ptr 90, 1, 8, .pointer none⟩),
  (89, ⟨.slice 93, 1, 24, .slice none 0 0⟩),
  (90, ⟨.slice 93, 1, 24, .slice none 0 0⟩),
  (91, ⟨.func, 1, 8, .nilFunc⟩),
  (92, ⟨.struct [(3, 0, 1), (3, 1, 1)], 2, 16, .agg #[.int .i64 0, .int .i64 0]⟩),
  (93, ⟨.struct [(3, 0, 1), (3, 1, 1)], 2, 16, .agg #[.int .i64 0, .int .i64 0]⟩),
  (94, ⟨.func, 1, 8, .nilFunc⟩),
  (96, ⟨.func, 1, 8, .nilFunc⟩),
  (97, ⟨.func, 1, 8, .nilFunc⟩),
  (98, ⟨.func, 1, 8, .nilFunc⟩),
  (99, ⟨.func, 1, 8, .nilFunc⟩),
  (100, ⟨.func, 1, 8, .nilFunc⟩),
  (101, ⟨.func, 1, 8, .nilFunc⟩),
  (102, ⟨.func, 1, 8, .nilFunc⟩),
  (103, ⟨.func, 1, 8, .nilFunc⟩),
  (104, ⟨.func, 1, 8, .nilFunc⟩),
  (105, ⟨.func, 1, 8, .nilFunc⟩),
  (106, ⟨.func, 1, 8, .nilFunc⟩),
  (107, ⟨.func, 1, 8, .nilFunc⟩),
  (108, ⟨.func, 1, 8, .nilFunc⟩),
  (109, ⟨.func, 1, 8, .nilFunc⟩),
  (110, ⟨.func, 1, 8, .nilFunc⟩),
  (111, ⟨.iface, 1, 16, .nilIface⟩),
  (112, ⟨.iface, 1, 16, .nilIface⟩),
  (113, ⟨.func, 1, 8, .nilFunc⟩),
  (114, ⟨.func, 1, 8, .nilFunc⟩),
  (115, ⟨.func, 1, 8, .nilFunc⟩),
  (116, ⟨.func, 1, 8, .nilFunc⟩),
  (117, ⟨.func, 1, 8, .nilFunc⟩),
  (118, ⟨.int .u64, 1, 8, .int .u64 0⟩),
  (119, ⟨.func, 1, 8, .nilFunc⟩),
  (120, ⟨.func, 1, 8, .nilFunc⟩),
  (121, ⟨.func, 1, 8, .nilFunc⟩),
  (122, ⟨.func, 1, 8, .nilFunc⟩),
  (123, ⟨.func, 1, 8, .nilFunc⟩),
  (124, ⟨.func, 1, 8, .nilFunc⟩),
  (125, ⟨.func, 1, 8, .nilFunc⟩),
  (126, ⟨.func, 1, 8, .nilFunc⟩),
  (127, ⟨.func, 1, 8, .nilFunc⟩),
  (128, ⟨.func, 1, 8, .nilFunc⟩),
  (129, ⟨.func, 1, 8, .nilFunc⟩),
  (130, ⟨.func, 1, 8, .nilFunc⟩),
  (131, ⟨.func, 1, 8, .nilFunc⟩),
  (132, ⟨.func, 1, 8, .nilFunc⟩),
  (133, ⟨.func, 1, 8, .nilFunc⟩),
  (134, ⟨.func, 1, 8, .nilFunc⟩),
  (135, ⟨.func, 1, 8, .nilFunc⟩),
  (136, ⟨.int .i64, 1, 8, .int .i64 0⟩),
  (138, ⟨.func, 1, 8, .nilFunc⟩),
  (139, ⟨.func, 1, 8, .nilFunc⟩),
  (140, ⟨.func, 1, 8, .nilFunc⟩),
  (141, ⟨.func, 1, 8, .nilFunc⟩),
  (142, ⟨.func, 1, 8, .nilFunc⟩),
  (143, ⟨.func, 1, 8, .nilFunc⟩),
  (144, ⟨.func, 1, 8, .nilFunc⟩),
  (145, ⟨.int .u64, 1, 8, .int .u64 0⟩),
  (146, ⟨.int .u64, 1, 8, .int .u64 0⟩),
  (147, ⟨.func, 1, 8, .nilFunc⟩),
  (148, ⟨.func, 1, 8, .nilFunc⟩),
  (149, ⟨.func, 1, 8, .nilFunc⟩),
  (150, ⟨.ptr 3, 1, 8, .pointer none⟩),
  (151, ⟨.func, 1, 8, .nilFunc⟩),
  (152, ⟨.func, 1, 8, .nilFunc⟩),
  (153, ⟨.ptr 146, 1, 8, .pointer none⟩),
  (154, ⟨.func, 1, 8, .nilFunc⟩),
  (155, ⟨.func, 1, 8, .nilFunc⟩),
  (161, ⟨.int .u8, 1, 1, .int .u8 0⟩),
  (162, ⟨.int .u8, 1, 1, .int .u8 0⟩),
  (163, ⟨.func, 1, 8, .nilFunc⟩),
  (164, ⟨.ptr 5, 1, 8, .pointer none⟩),
  (165, ⟨.int .i32, 1, 4, .int .i32 0⟩),
  (166, ⟨.int .i32, 1, 4, .int .i32 0⟩)]
theorem ttok : TTok Try.prog tt := by
  refine ttok_cons ⟨by kernel_rfl, ⟨_, _, _, Try.underlying1⟩⟩ ?_
  refine ttok_cons ⟨by kernel_rfl, Try.underlying2⟩ ?_
  refine ttok_cons ⟨by kernel_rfl, Try.underlying3⟩ ?_
  refine ttok_cons ⟨by kernel_rfl, Try.underlying4⟩ ?_
  refine ttok_cons ⟨by kernel_rfl, Try.underlying5⟩ ?_
  refine ttok_cons ⟨by kernel_rfl, Try.underlying6⟩ ?_
  refine ttok_cons ⟨by kernel_rfl, Try.underlying9⟩ ?_
  refine ttok_cons ⟨by kernel_rfl, Try.underlying10⟩ ?_
  refine ttok_cons ⟨by kernel_rfl, Try.underlying11⟩ ?_
  refine ttok_cons ⟨by kernel_rfl, Try.underlying12⟩ ?_
  refine ttok_cons ⟨by kernel_rfl, Try.underlying15⟩ ?_
  refine ttok_cons ⟨by kernel_rfl, Try.underlying16⟩ ?_
  refine ttok_cons ⟨by kernel_rfl, Try.underlying17⟩ ?_
  refine ttok_cons ⟨by kernel_rfl, ⟨_, Try.underlying20⟩⟩ ?_
  refine ttok_cons ⟨by kernel_rfl, Try.underlying21⟩ ?_
  refine ttok_cons ⟨by kernel_rfl, ⟨_, Try.underlying22, by kernel_rfl, by kernel_rfl, by kernel_rfl, by kernel_rfl, by kernel_rfl, by kernel_rfl⟩⟩ ?_
  refine ttok_cons ⟨by kernel_rfl, ⟨_, Try.underlying23, by kernel_rfl, by kernel_rfl, by kernel_rfl, by kernel_rfl, by kernel_rfl, by kernel_rfl⟩⟩ ?_
  refine ttok_cons ⟨by kernel_rfl, ⟨_, Try.underlying24, by kernel_rfl, by kernel_rfl, by kernel_rfl, by kernel_rfl, by kernel_rfl, by kernel_rfl⟩⟩ ?_
  refine ttok_cons ⟨by kernel_rfl, ⟨_, Try.underlying25, by kernel_rfl, by kernel_rfl, by kernel_rfl, by kernel_rfl, by kernel_rfl, by kernel_rfl⟩⟩ ?_
  refine ttok_cons ⟨by kernel_rfl, Try.underlying26⟩ ?_
  refine ttok_cons ⟨by kernel_rfl, Try.underlying27⟩ ?_
  refine ttok_cons ⟨by kernel_rfl, Try.underlying28⟩ ?_
  refine ttok_cons ⟨by kernel_rfl, Try.underlying29⟩ ?_
  refine ttok_cons ⟨by kernel_rfl, ⟨_, Try.underlying30, by kernel_rfl, by kernel_rfl, by kernel_rfl, by kernel_rfl, by kernel_rfl, by kernel_rfl⟩⟩ ?_
  refine ttok_cons ⟨by kernel_rfl, ⟨_, Try.underlying31, by kernel_rfl, by kernel_rfl, by kernel_rfl, by kernel_rfl, by kernel_rfl, by kernel_rfl⟩⟩ ?_
  refine ttok_cons ⟨by kernel_rfl, ⟨_, _, _, Try.underlying32⟩⟩ ?_
  refine ttok_cons ⟨by kernel_rfl, ⟨_, _, _, Try.underlying33⟩⟩ ?_
  refine ttok_cons ⟨by kernel_rfl, ⟨_, _, _, Try.underlying35⟩⟩ ?_
  refine ttok_cons ⟨by kernel_rfl, ⟨_, _, _, Try.underlying37⟩⟩ ?_
  refine ttok_cons ⟨by kernel_rfl, ⟨_, _, _, Try.underlying38⟩⟩ ?_
  refine ttok_cons ⟨by kernel_rfl, ⟨_, _, _, Try.underlying39⟩⟩ ?_
  refine ttok_cons ⟨by kernel_rfl, ⟨_, _, _, Try.underlying40⟩⟩ ?_
  refine ttok_cons ⟨by kernel_rfl, ⟨_, _, _, Try.underlying41⟩⟩ ?_
  refine ttok_cons ⟨by kernel_rfl, ⟨_, _, _, Try.underlying42⟩⟩ ?_
  refine ttok_cons ⟨by kernel_rfl, ⟨_, _, _, Try.underlying43⟩⟩ ?_
  refine ttok_cons ⟨by kernel_rfl, ⟨_, _, _, Try.underlying44⟩⟩ ?_
  refine ttok_cons ⟨by kernel_rfl, ⟨_, _, _, Try.underlying45⟩⟩ ?_
  refine ttok_cons ⟨by kernel_rfl, Try.underlying46⟩ ?_
  refine ttok_cons ⟨by kernel_rfl, ⟨_, Try.underlying47, by kernel_rfl, by kernel_rfl, by kernel_rfl, by kernel_rfl, by kernel_rfl, by kernel_rfl⟩⟩ ?_
  refine ttok_cons ⟨by kernel_rfl, ⟨_, Try.underlying48, by kernel_rfl, by kernel_rfl, by kernel_rfl, by kernel_rfl, by kernel_rfl, by kernel_rfl⟩⟩ ?_
  refine ttok_cons ⟨by kernel_rfl, ⟨_, Try.underlying49, by kernel_rfl, by kernel_rfl, by kernel_rfl, by kernel_rfl, by kernel_rfl, by kernel_rfl⟩⟩ ?_
  refine ttok_cons ⟨by kernel_rfl, ⟨_, Try.underlying50, by kernel_rfl, by kernel_rfl, by kernel_rfl, by kernel_rfl, by kernel_rfl, by kernel_rfl⟩⟩ ?_
  refine ttok_cons ⟨by kernel_rfl, Try.underlying51⟩ ?_
  refine ttok_cons ⟨by kernel_rfl, ⟨_, _, _, Try.underlying52⟩⟩ ?_
  refine ttok_cons ⟨by kernel_rfl, ⟨_, _, _, Try.underlying54⟩⟩ ?_
  refine ttok_cons ⟨by kernel_rfl, Try.underlying55⟩ ?_
  refine ttok_cons ⟨by kernel_rfl, ⟨_, _, _, Try.underlying56⟩⟩ ?_
  refine ttok_cons ⟨by kernel_rfl, ⟨_, _, _, Try.underlying57⟩⟩ ?_
  refine ttok_cons ⟨by kernel_rfl, ⟨_, _, _, Try.underlying59⟩⟩ ?_
  refine ttok_cons ⟨by kernel_rfl, ⟨_, _, _, Try.underlying60⟩⟩ ?_
  refine ttok_cons ⟨by kernel_rfl, ⟨_, _, _, Try.underlying61⟩⟩ ?_
  refine ttok_cons ⟨by kernel_rfl, ⟨_, _, _, Try.underlying62⟩⟩ ?_
  refine ttok_cons ⟨by kernel_rfl, ⟨_, _, _, Try.underlying63⟩⟩ ?_
  refine ttok_cons ⟨by kernel_rfl, ⟨_, _, _, Try.underlying64⟩⟩ ?_
  refine ttok_cons ⟨by kernel_rfl, ⟨_, _, _, Try.underlying65⟩⟩ ?_
  refine ttok_cons ⟨by kernel_rfl, ⟨_, _, _, Try.underlying67⟩⟩ ?_
  refine ttok_cons ⟨by kernel_rfl, ⟨_, _, _, Try.underlying68⟩⟩ ?_
  refine ttok_cons ⟨by kernel_rfl, ⟨_, _, _, Try.underlying69⟩⟩ ?_
  refine ttok_cons ⟨by kernel_rfl, ⟨_, _, _, Try.underlying71⟩⟩ ?_
  refine ttok_cons ⟨by kernel_rfl, ⟨_, _, _, Try.underlying72⟩⟩ ?_
  refine ttok_cons ⟨by kernel_rfl, ⟨_, _, _, Try.underlying73⟩⟩ ?_
  refine ttok_cons ⟨by kernel_rfl, ⟨_, _, _, Try.underlying74⟩⟩ ?_
  refine ttok_cons ⟨by kernel_rfl, ⟨_, _, _, Try.underlying75⟩⟩ ?_
  refine ttok_cons ⟨by kernel_rfl, ⟨_, _, _, Try.underlying76⟩⟩ ?_
  refine ttok_cons ⟨by kernel_rfl, ⟨_, _, _, Try.underlying78⟩⟩ ?_
  refine ttok_cons ⟨by kernel_rfl, ⟨_, _, _, Try.underlying79⟩⟩ ?_
  refine ttok_cons ⟨by kernel_rfl, ⟨_, _, _, Try.underlying80⟩⟩ ?_
  refine ttok_cons ⟨by kernel_rfl, ⟨_, _, _, Try.underlying81⟩⟩ ?_
  refine ttok_cons ⟨by kernel_rfl, ⟨_, _, _, Try.underlying82⟩⟩ ?_
  refine ttok_cons ⟨by kernel_rfl, ⟨_, _, _, Try.underlying83⟩⟩ ?_
  refine ttok_cons ⟨by kernel_rfl, ⟨_, _, _, Try.underlying84⟩⟩ ?_
  refine ttok_cons ⟨by kernel_rfl, ⟨_, _, _, Try.underlying85⟩⟩ ?_
  refine ttok_cons ⟨by kernel_rfl, ⟨_, _, _, Try.underlying86⟩⟩ ?_
  refine ttok_cons ⟨by kernel_rfl, ⟨_, _, _, Try.underlying87⟩⟩ ?_
  refine ttok_cons ⟨by kernel_rfl, Try.underlying88⟩ ?_
  refine ttok_cons ⟨by kernel_rfl, Try.underlying89⟩ ?_
  refine ttok_cons ⟨by kernel_rfl, Try.underlying90⟩ ?_
  refine ttok_cons ⟨by kernel_rfl, ⟨_, _, _, Try.underlying91⟩⟩ ?_
  refine ttok_cons ⟨by kernel_rfl, ⟨_, Try.underlying92, by kernel_rfl, by kernel_rfl, by kernel_rfl, by kernel_rfl, by kernel_rfl, by kernel_rfl⟩⟩ ?_
  refine ttok_cons ⟨by kernel_rfl, ⟨_, Try.underlying93, by kernel_rfl, by kernel_rfl, by kernel_rfl, by kernel_rfl, by kernel_rfl, by kernel_rfl⟩⟩ ?_
  refine ttok_cons ⟨by kernel_rfl, ⟨_, _, _, Try.underlying94⟩⟩ ?_
  refine ttok_cons ⟨by kernel_rfl, ⟨_, _, _, Try.underlying96⟩⟩ ?_
  refine ttok_cons ⟨by kernel_rfl, ⟨_, _, _, Try.underlying97⟩⟩ ?_
  refine ttok_cons ⟨by kernel_rfl, ⟨_, _, _, Try.underlying98⟩⟩ ?_
  refine ttok_cons ⟨by kernel_rfl, ⟨_, _, _, Try.underlying99⟩⟩ ?_
  refine ttok_cons ⟨by kernel_rfl, ⟨_, _, _, Try.underlying100⟩⟩ ?_
  refine ttok_cons ⟨by kernel_rfl, ⟨_, _, _, Try.underlying101⟩⟩ ?_
  refine ttok_cons ⟨by kernel_rfl, ⟨_, _, _, Try.underlying102⟩⟩ ?_
  refine ttok_cons ⟨by kernel_rfl, ⟨_, _, _, Try.underlying103⟩⟩ ?_
  refine ttok_cons ⟨by kernel_rfl, ⟨_, _, _, Try.underlying104⟩⟩ ?_
  refine ttok_cons ⟨by kernel_rfl, ⟨_, _, _, Try.underlying105⟩⟩ ?_
  refine ttok_cons ⟨by kernel_rfl, ⟨_, _, _, Try.underlying106⟩⟩ ?_
  refine ttok_cons ⟨by kernel_rfl, ⟨_, _, _, Try.underlying107⟩⟩ ?_
  refine ttok_cons ⟨by kernel_rfl, ⟨_, _, _, Try.underlying108⟩⟩ ?_
  refine ttok_cons ⟨by kernel_rfl, ⟨_, _, _, Try.underlying109⟩⟩ ?_
  refine ttok_cons ⟨by kernel_rfl, ⟨_, _, _, Try.underlying110⟩⟩ ?_
  refine ttok_cons ⟨by kernel_rfl, ⟨_, Try.underlying111⟩⟩ ?_
  refine ttok_cons ⟨by kernel_rfl, ⟨_, Try.underlying112⟩⟩ ?_
  refine ttok_cons ⟨by kernel_rfl, ⟨_, _, _, Try.underlying113⟩⟩ ?_
  refine ttok_cons ⟨by kernel_rfl, ⟨_, _, _, Try.underlying114⟩⟩ ?_
  refine ttok_cons ⟨by kernel_rfl, ⟨_, _, _, Try.underlying115⟩⟩ ?_
  refine ttok_cons ⟨by kernel_rfl, ⟨_, _, _, Try.underlying116⟩⟩ ?_
  refine ttok_cons ⟨by kernel_rfl, ⟨_, _, _, Try.underlying117⟩⟩ ?_
  refine ttok_cons ⟨by kernel_rfl, Try.underlying118⟩ ?_
  refine ttok_cons ⟨by kernel_rfl, ⟨_, _, _, Try.underlying119⟩⟩ ?_
  refine ttok_cons ⟨by kernel_rfl, ⟨_, _, _, Try.underlying120⟩⟩ ?_
  refine ttok_cons ⟨by kernel_rfl, ⟨_, _, _, Try.underlying121⟩⟩ ?_
  refine ttok_cons ⟨by kernel_rfl, ⟨_, _, _, Try.underlying122⟩⟩ ?_
  refine ttok_cons ⟨by kernel_rfl, ⟨_, _, _, Try.underlying123⟩⟩ ?_
  refine ttok_cons ⟨by kernel_rfl, ⟨_, _, _, Try.underlying124⟩⟩ ?_
  refine ttok_cons ⟨by kernel_rfl, ⟨_, _, _, Try.underlying125⟩⟩ ?_
  refine ttok_cons ⟨by kernel_rfl, ⟨_, _, _, Try.underlying126⟩⟩ ?_
  refine ttok_cons ⟨by kernel_rfl, ⟨_, _, _, Try.underlying127⟩⟩ ?_
  refine ttok_cons ⟨by kernel_rfl, ⟨_, _, _, Try.underlying128⟩⟩ ?_
  refine ttok_cons ⟨by kernel_rfl, ⟨_, _, _, Try.underlying129⟩⟩ ?_
  refine ttok_cons ⟨by kernel_rfl, ⟨_, _, _, Try.underlying130⟩⟩ ?_
  refine ttok_cons ⟨by kernel_rfl, ⟨_, _, _, Try.underlying131⟩⟩ ?_
  refine ttok_cons ⟨by kernel_rfl, ⟨_, _, _, Try.underlying132⟩⟩ ?_
  refine ttok_cons ⟨by kernel_rfl, ⟨_, _, _, Try.underlying133⟩⟩ ?_
  refine ttok_cons ⟨by kernel_rfl, ⟨_, _, _, Try.underlying134⟩⟩ ?_
  refine ttok_cons ⟨by kernel_rfl, ⟨_, _, _, Try.underlying135⟩⟩ ?_
  refine ttok_cons ⟨by kernel_rfl, Try.underlying136⟩ ?_
  refine ttok_cons ⟨by kernel_rfl, ⟨_, _, _, Try.underlying138⟩⟩ ?_
  refine ttok_cons ⟨by kernel_rfl, ⟨_, _, _, Try.underlying139⟩⟩ ?_
  refine ttok_cons ⟨by kernel_rfl, ⟨_, _, _, Try.underlying140⟩⟩ ?_
  refine ttok_cons ⟨by kernel_rfl, ⟨_, _, _, Try.underlying141⟩⟩ ?_
  refine ttok_cons ⟨by kernel_rfl, ⟨_, _, _, Try.underlying142⟩⟩ ?_
  refine ttok_cons ⟨by kernel_rfl, ⟨_, _, _, Try.underlying143⟩⟩ ?_
  refine ttok_cons ⟨by kernel_rfl, ⟨_, _, _, Try.underlying144⟩⟩ ?_
  refine ttok_cons ⟨by kernel_rfl, Try.underlying145⟩ ?_
  refine ttok_cons ⟨by kernel_rfl, Try.underlying146⟩ ?_
  refine ttok_cons ⟨by kernel_rfl, ⟨_, _, _, Try.underlying147⟩⟩ ?_
  refine ttok_cons ⟨by kernel_rfl, ⟨_, _, _, Try.underlying148⟩⟩ ?_
  refine ttok_cons ⟨by kernel_rfl, ⟨_, _, _, Try.underlying149⟩⟩ ?_
  refine ttok_cons ⟨by kernel_rfl, Try.underlying150⟩ ?_
  refine ttok_cons ⟨by kernel_rfl, ⟨_, _, _, Try.underlying151⟩⟩ ?_
  refine ttok_cons ⟨by kernel_rfl, ⟨_, _, _, Try.underlying152⟩⟩ ?_
  refine ttok_cons ⟨by kernel_rfl, Try.underlying153⟩ ?_
  refine ttok_cons ⟨by kernel_rfl, ⟨_, _, _, Try.underlying154⟩⟩ ?_
  refine ttok_cons ⟨by kernel_rfl, ⟨_, _, _, Try.underlying155⟩⟩ ?_
  refine ttok_cons ⟨by kernel_rfl, Try.underlying161⟩ ?_
  refine ttok_cons ⟨by kernel_rfl, Try.underlying162⟩ ?_
  refine ttok_cons ⟨by kernel_rfl, ⟨_, _, _, Try.underlying163⟩⟩ ?_
  refine ttok_cons ⟨by kernel_rfl, Try.underlying164⟩ ?_
  refine ttok_cons ⟨by kernel_rfl, Try.underlying165⟩ ?_
  refine ttok_cons ⟨by kernel_rfl, Try.underlying166⟩ ?_
  exact ttok_nil _
theorem mix : Try.prog.follows .mixedOrders = true := by kernel_rfl
theorem cmpstr : CmpStr Try.prog 123 := CmpStr.of Try.func123 (by kernel_rfl) (by kernel_rfl) (by kernel_rfl) rfl
/-! sluicegate/sluicegatelaw13.Great -/
def sluicegatelaw13_Great.l2 : Nat → (Int × List (Int) × List (List UInt8) × (List (List UInt8 × Bool × List UInt8)) × (List (List UInt8 × List UInt8))) → (Int) → Option (Bool)
  | 0, _, _ => none
  | k + 1, a0, x3 => if (decide (x3 < (a0.2.2.2.2.length : Int))) = true then (if 0 ≤ x3 ∧ x3 < (a0.2.2.2.2.length : Int) then (if (decide (200 < (((gt a0.2.2.2.2 x3).1).length : Int))) = true then (some true) else (sluicegatelaw13_Great.l2 k a0 (w64 (x3 + 1)))) else none) else (some false)
def sluicegatelaw13_Great.l1 : Nat → (Int × List (Int) × List (List UInt8) × (List (List UInt8 × Bool × List UInt8)) × (List (List UInt8 × List UInt8))) → (Int) → Option (Bool)
  | 0, _, _ => none
  | k + 1, a0, x2 => if (decide (x2 < (a0.2.2.2.1.length : Int))) = true then (if 0 ≤ x2 ∧ x2 < (a0.2.2.2.1.length : Int) then (if (decide (200 < (((gt a0.2.2.2.1 x2).1).length : Int))) = true then (some true) else (sluicegatelaw13_Great.l1 k a0 (w64 (x2 + 1)))) else none) else (sluicegatelaw13_Great.l2 k a0 0)
def sluicegatelaw13_Great.l0 : Nat → (Int × List (Int) × List (List UInt8) × (List (List UInt8 × Bool × List UInt8)) × (List (List UInt8 × List UInt8))) → (Int) → Option (Bool)
  | 0, _, _ => none
  | k + 1, a0, x1 => if (decide (x1 < (a0.2.2.1.length : Int))) = true then (if 0 ≤ x1 ∧ x1 < (a0.2.2.1.length : Int) then (if (decide (200 < ((gt a0.2.2.1 x1).length : Int))) = true then (some true) else (sluicegatelaw13_Great.l0 k a0 (w64 (x1 + 1)))) else none) else (sluicegatelaw13_Great.l1 k a0 0)
def sluicegatelaw13_Great.f (k : Nat) (a0 : Int × List (Int) × List (List UInt8) × (List (List UInt8 × Bool × List UInt8)) × (List (List UInt8 × List UInt8))) : Option (Bool) := if (decide (80 < (a0.2.1.length : Int))) = true then (some true) else (if (decide (80 < (a0.2.2.1.length : Int))) = true then (some true) else (if (decide (150 < (a0.2.2.2.1.length : Int))) = true then (some true) else (if (decide (150 < (a0.2.2.2.2.length : Int))) = true then (some true) else (sluicegatelaw13_Great.l0 k a0 0))))
set_option maxRecDepth 20000 in
set_option maxHeartbeats 4000000 in
theorem sluicegatelaw13_Great.spec {k : Nat} {a0 : Int × List (Int) × List (List UInt8) × (List (List UInt8 × Bool × List UInt8)) × (List (List UInt8 × List UInt8))} {A1 : Option Addr} {c_1 : Nat} {A2 : Option Addr} {c_2 : Nat} {A3 : Option Addr} {c_3 : Nat} {A4 : Option Addr} {c_4 : Nat} {r : Bool} (H : sluicegatelaw13_Great.f k a0 = some r) :
    Spec Try.prog 28 [.agg #[.int .i64 a0.1, .slice A1 a0.2.1.length c_1, .slice A2 a0.2.2.1.length c_2, .slice A3 a0.2.2.2.1.length c_3, .slice A4 a0.2.2.2.2.length c_4]] [] [rdC 46 (.int .u32) a0.2.1 (.slice A1 a0.2.1.length c_1), rdC 9 .str a0.2.2.1 (.slice A2 a0.2.2.1.length c_2), rdC 48 (.pair .str (.pair .bool .str)) a0.2.2.2.1 (.slice A3 a0.2.2.2.1.length c_3), rdC 50 (.pair .str .str) a0.2.2.2.2 (.slice A4 a0.2.2.2.2.length c_4)] (fun v l => v = .bool r ∧ l = []) := by
  refine Spec.enter Try.func28 rfl (by kernel_rfl) (by kernel_rfl) fun w0 F0 h0 => ?_
  unfold sluicegatelaw13_Great.f at H
  refine J.seq ?_
  refine J.region ?_
  refine RJ.op rfl rfl (op_box rfl rfl h0) ?_
  rintro _ w1 ⟨b1, rfl, h1⟩
  refine RJ.run ttok 1 rfl ?_
  refine RJ.fin [(1, .pointer (some ⟨b1, 0, none⟩))] rfl ?_
  refine J.seq ?_
  refine J.seq ?_
  refine J.region ?_
  refine RJ.run ttok 1 rfl ?_
  refine RJ.q rfl rfl (q_load_box ttok 0 (fun w e => e ▸ h1.wh) rfl rfl rfl rfl rfl) ?_
  refine RJ.run ttok 3 rfl ?_
  rcases Bool.eq_false_or_eq_true (decide (80 < (a0.2.1.length : Int))) with c1 | c1
  · replace H := ite_t c1 H
    refine RJ.know (t := 10) rfl (congrArg Value.bool c1) ?_
    refine RJ.run ttok 17 rfl ?_
    refine RJ.fin [(1, .pointer (some ⟨b1, 0, none⟩)), (27, .bool true)] rfl ?_
    refine J.condT rfl ?_
    refine J.seq ?_
    refine J.region ?_
    refine RJ.run ttok 1 rfl ?_
    refine RJ.fin [(2, .bool true)] rfl ?_
    refine J.ret ?_
    obtain rfl := Option.some.inj H
    exact ⟨_, _, _, (results_slots rfl), ⟨rfl, rfl⟩, h1.only [] rfl⟩
  · replace H := ite_f c1 H
    refine RJ.know (t := 10) rfl (congrArg Value.bool c1) ?_
    refine RJ.run ttok 1 rfl ?_
    refine RJ.q rfl rfl (q_load_box ttok 0 (fun w e => e ▸ h1.wh) rfl rfl rfl rfl rfl) ?_
    refine RJ.run ttok 4 rfl ?_
    rcases Bool.eq_false_or_eq_true (decide (80 < (a0.2.2.1.length : Int))) with c2 | c2
    · replace H := ite_t c2 H
      refine RJ.know (t := 16) rfl (congrArg Value.bool c2) ?_
      refine RJ.run ttok 11 rfl ?_
      refine RJ.fin [(1, .pointer (some ⟨b1, 0, none⟩)), (27, .bool true)] rfl ?_
      refine J.condT rfl ?_
      refine J.seq ?_
      refine J.region ?_
      refine RJ.run ttok 1 rfl ?_
      refine RJ.fin [(2, .bool true)] rfl ?_
      refine J.ret ?_
      obtain rfl := Option.some.inj H
      exact ⟨_, _, _, (results_slots rfl), ⟨rfl, rfl⟩, h1.only [] rfl⟩
    · replace H := ite_f c2 H
      refine RJ.know (t := 16) rfl (congrArg Value.bool c2) ?_
      refine RJ.run ttok 1 rfl ?_
      refine RJ.q rfl rfl (q_load_box ttok 0 (fun w e => e ▸ h1.wh) rfl rfl rfl rfl rfl) ?_
      refine RJ.run ttok 4 rfl ?_
      rcases Bool.eq_false_or_eq_true (decide (150 < (a0.2.2.2.1.length : Int))) with c3 | c3
      · replace H := ite_t c3 H
        refine RJ.know (t := 22) rfl (congrArg Value.bool c3) ?_
        refine RJ.run ttok 5 rfl ?_
        refine RJ.fin [(1, .pointer (some ⟨b1, 0, none⟩)), (27, .bool true)] rfl ?_
        refine J.condT rfl ?_
        refine J.seq ?_
        refine J.region ?_
        refine RJ.run ttok 1 rfl ?_
        refine RJ.fin [(2, .bool true)] rfl ?_
        refine J.ret ?_
        obtain rfl := Option.some.inj H
        exact ⟨_, _, _, (results_slots rfl), ⟨rfl, rfl⟩, h1.only [] rfl⟩
      · replace H := ite_f c3 H
        refine RJ.know (t := 22) rfl (congrArg Value.bool c3) ?_
        refine RJ.run ttok 1 rfl ?_
        refine RJ.q rfl rfl (q_load_box ttok 0 (fun w e => e ▸ h1.wh) rfl rfl rfl rfl rfl) ?_
        refine RJ.run ttok 3 rfl ?_
        refine RJ.fin [(1, .pointer (some ⟨b1, 0, none⟩)), (27, .bool (decide (150 < (a0.2.2.2.2.length : Int))))] rfl ?_
        refine J.cond rfl (fun c4 => ?_) (fun c4 => ?_)
        · replace H := ite_t c4 H
          refine J.seq ?_
          refine J.region ?_
          refine RJ.run ttok 1 rfl ?_
          refine RJ.fin [(2, .bool true)] rfl ?_
          refine J.ret ?_
          obtain rfl := Option.some.inj H
          exact ⟨_, _, _, (results_slots rfl), ⟨rfl, rfl⟩, h1.only [] rfl⟩
        · replace H := ite_f c4 H
          refine J.skip ?_
          refine J.seq ?_
          refine J.seq ?_
          refine J.region ?_
          refine RJ.run ttok 1 rfl ?_
          refine RJ.fin [(1, .pointer (some ⟨b1, 0, none⟩)), (3, .int .i64 0)] rfl ?_
          refine J.block ?_
          have h10 := ((h1.only [0] rfl).rds [0, 1, 2, 3] rfl)
          refine J.loop (fun k env w => ∃ (x1 : Int), env = [(1, .pointer (some ⟨b1, 0, none⟩)), (3, .int .i64 x1)] ∧ St w0 F0 [boxC b1 31 [.int .i64 a0.1, .slice A1 a0.2.1.length c_1, .slice A2 a0.2.2.1.length c_2, .slice A3 a0.2.2.2.1.length c_3, .slice A4 a0.2.2.2.2.length c_4]] [rdC 46 (.int .u32) a0.2.1 (.slice A1 a0.2.1.length c_1), rdC 9 .str a0.2.2.1 (.slice A2 a0.2.2.1.length c_2), rdC 48 (.pair .str (.pair .bool .str)) a0.2.2.2.1 (.slice A3 a0.2.2.2.1.length c_3), rdC 50 (.pair .str .str) a0.2.2.2.2 (.slice A4 a0.2.2.2.2.length c_4)] w ∧ sluicegatelaw13_Great.l0 k a0 x1 = some r) (k := k) ⟨0, rfl, h10, H⟩ ?_
          rintro k1 env w2 ⟨x1, rfl, h2, H⟩
          cases k1 with
          | zero => exact nomatch (show none = some r from H)
          | succ k1 =>
            rw [sluicegatelaw13_Great.l0] at H
            refine J.seq ?_
            refine J.seq ?_
            refine J.region ?_
            refine RJ.run ttok 2 rfl ?_
            refine RJ.q rfl rfl (q_load_box ttok 0 (fun w e => e ▸ h2.wh) rfl rfl rfl rfl rfl) ?_
            refine RJ.run ttok 2 rfl ?_
            refine RJ.fin [(1, .pointer (some ⟨b1, 0, none⟩)), (3, .int .i64 x1), (32, .bool (decide (x1 < (a0.2.2.1.length : Int))))] rfl ?_
            refine J.cond rfl (fun c5 => ?_) (fun c5 => ?_)
            · replace H := ite_t c5 H
              refine J.skip ?_
              refine J.seq ?_
              refine J.block ?_
              refine J.seq ?_
              refine J.region ?_
              refine RJ.run ttok 1 rfl ?_
              refine RJ.q rfl rfl (q_load_box ttok 0 (fun w e => e ▸ h2.wh) rfl rfl rfl rfl rfl) ?_
              refine RJ.run ttok 1 rfl ?_
              obtain ⟨⟨p1, p2⟩, H⟩ := guard_t H
              have e1 := elem_A h2.wh (Gives.self 2 rfl) p1 p2
              refine RJ.q rfl rfl (q_index ttok rfl rfl rfl rfl rfl e1 p1 p2) ?_
              refine RJ.q rfl rfl (q_load_elem (f := 0) ttok rfl (fun w e => e ▸ h2.wh) (Gives.self 2 rfl) p1 p2 rfl rfl rfl rfl rfl) ?_
              refine RJ.run ttok 2 rfl ?_
              refine RJ.fin [(1, .pointer (some ⟨b1, 0, none⟩)), (3, .int .i64 x1), (41, .bool (decide (200 < ((gt a0.2.2.1 x1).length : Int))))] rfl ?_
              refine J.cond rfl (fun c6 => ?_) (fun c6 => ?_)
              · replace H := ite_t c6 H
                refine J.seq ?_
                refine J.region ?_
                refine RJ.run ttok 1 rfl ?_
                refine RJ.fin [(2, .bool true)] rfl ?_
                refine J.ret ?_
                obtain rfl := Option.some.inj H
                exact ⟨_, _, _, (results_slots rfl), ⟨rfl, rfl⟩, h2.only [] rfl⟩
              · replace H := ite_f c6 H
                refine J.skip ?_
                refine J.region ?_
                refine RJ.run ttok 3 rfl ?_
                refine RJ.fin [(1, .pointer (some ⟨b1, 0, none⟩)), (3, .int .i64 (w64 (x1 + 1)))] rfl ?_
                have h3 := ((h2.only [0] rfl).rds [0, 1, 2, 3] rfl)
                exact ⟨k1, by omega, (w64 (x1 + 1)), rfl, h3, H⟩
            · replace H := ite_f c5 H
              refine J.exit ?_
              refine J.seq ?_
              refine J.seq ?_
              refine J.region ?_
              refine RJ.run ttok 1 rfl ?_
              refine RJ.fin [(1, .pointer (some ⟨b1, 0, none⟩)), (4, .int .i64 0)] rfl ?_
              refine J.block ?_
              have h9 := ((h2.only [0] rfl).rds [0, 1, 2, 3] rfl)
              refine J.loop (fun k env w => ∃ (x2 : Int), env = [(1, .pointer (some ⟨b1, 0, none⟩)), (4, .int .i64 x2)] ∧ St w0 F0 [boxC b1 31 [.int .i64 a0.1, .slice A1 a0.2.1.length c_1, .slice A2 a0.2.2.1.length c_2, .slice A3 a0.2.2.2.1.length c_3, .slice A4 a0.2.2.2.2.length c_4]] [rdC 46 (.int .u32) a0.2.1 (.slice A1 a0.2.1.length c_1), rdC 9 .str a0.2.2.1 (.slice A2 a0.2.2.1.length c_2), rdC 48 (.pair .str (.pair .bool .str)) a0.2.2.2.1 (.slice A3 a0.2.2.2.1.length c_3), rdC 50 (.pair .str .str) a0.2.2.2.2 (.slice A4 a0.2.2.2.2.length c_4)] w ∧ sluicegatelaw13_Great.l1 k a0 x2 = some r) (k := k1) ⟨0, rfl, h9, H⟩ ?_
              rintro k2 env w3 ⟨x2, rfl, h4, H⟩
              cases k2 with
              | zero => exact nomatch (show none = some r from H)
              | succ k2 =>
                rw [sluicegatelaw13_Great.l1] at H
                refine J.seq ?_
                refine J.seq ?_
                refine J.region ?_
                refine RJ.run ttok 2 rfl ?_
                refine RJ.q rfl rfl (q_load_box ttok 0 (fun w e => e ▸ h4.wh) rfl rfl rfl rfl rfl) ?_
                refine RJ.run ttok 2 rfl ?_
                refine RJ.fin [(1, .pointer (some ⟨b1, 0, none⟩)), (4, .int .i64 x2), (46, .bool (decide (x2 < (a0.2.2.2.1.length : Int))))] rfl ?_
                refine J.cond rfl (fun c7 => ?_) (fun c7 => ?_)
                · replace H := ite_t c7 H
                  refine J.skip ?_
                  refine J.seq ?_
                  refine J.block ?_
                  refine J.seq ?_
                  refine J.region ?_
                  refine RJ.run ttok 1 rfl ?_
                  refine RJ.q rfl rfl (q_load_box ttok 0 (fun w e => e ▸ h4.wh) rfl rfl rfl rfl rfl) ?_
                  refine RJ.run ttok 1 rfl ?_
                  obtain ⟨⟨p3, p4⟩, H⟩ := guard_t H
                  have e2 := elem_A h4.wh (Gives.self 3 rfl) p3 p4
                  refine RJ.q rfl rfl (q_index ttok rfl rfl rfl rfl rfl e2 p3 p4) ?_
                  refine RJ.run ttok 1 rfl ?_
                  refine RJ.q rfl rfl (q_load_elem (f := 0) ttok rfl (fun w e => e ▸ h4.wh) (Gives.self 3 rfl) p3 p4 rfl rfl rfl rfl rfl) ?_
                  refine RJ.run ttok 2 rfl ?_
                  refine RJ.fin [(1, .pointer (some ⟨b1, 0, none⟩)), (4, .int .i64 x2), (56, .bool (decide (200 < (((gt a0.2.2.2.1 x2).1).length : Int))))] rfl ?_
                  refine J.cond rfl (fun c8 => ?_) (fun c8 => ?_)
                  · replace H := ite_t c8 H
                    refine J.seq ?_
                    refine J.region ?_
                    refine RJ.run ttok 1 rfl ?_
                    refine RJ.fin [(2, .bool true)] rfl ?_
                    refine J.ret ?_
                    obtain rfl := Option.some.inj H
                    exact ⟨_, _, _, (results_slots rfl), ⟨rfl, rfl⟩, h4.only [] rfl⟩
                  · replace H := ite_f c8 H
                    refine J.skip ?_
                    refine J.region ?_
                    refine RJ.run ttok 3 rfl ?_
                    refine RJ.fin [(1, .pointer (some ⟨b1, 0, none⟩)), (4, .int .i64 (w64 (x2 + 1)))] rfl ?_
                    have h5 := ((h4.only [0] rfl).rds [0, 1, 2, 3] rfl)
                    exact ⟨k2, by omega, (w64 (x2 + 1)), rfl, h5, H⟩
                · replace H := ite_f c7 H
                  refine J.exit ?_
                  refine J.seq ?_
                  refine J.seq ?_
                  refine J.region ?_
                  refine RJ.run ttok 1 rfl ?_
                  refine RJ.fin [(1, .pointer (some ⟨b1, 0, none⟩)), (5, .int .i64 0)] rfl ?_
                  refine J.block ?_
                  have h8 := ((h4.only [0] rfl).rds [0, 1, 2, 3] rfl)
                  refine J.loop (fun k env w => ∃ (x3 : Int), env = [(1, .pointer (some ⟨b1, 0, none⟩)), (5, .int .i64 x3)] ∧ St w0 F0 [boxC b1 31 [.int .i64 a0.1, .slice A1 a0.2.1.length c_1, .slice A2 a0.2.2.1.length c_2, .slice A3 a0.2.2.2.1.length c_3, .slice A4 a0.2.2.2.2.length c_4]] [rdC 46 (.int .u32) a0.2.1 (.slice A1 a0.2.1.length c_1), rdC 9 .str a0.2.2.1 (.slice A2 a0.2.2.1.length c_2), rdC 48 (.pair .str (.pair .bool .str)) a0.2.2.2.1 (.slice A3 a0.2.2.2.1.length c_3), rdC 50 (.pair .str .str) a0.2.2.2.2 (.slice A4 a0.2.2.2.2.length c_4)] w ∧ sluicegatelaw13_Great.l2 k a0 x3 = some r) (k := k2) ⟨0, rfl, h8, H⟩ ?_
                  rintro k3 env w4 ⟨x3, rfl, h6, H⟩
                  cases k3 with
                  | zero => exact nomatch (show none = some r from H)
                  | succ k3 =>
                    rw [sluicegatelaw13_Great.l2] at H
                    refine J.seq ?_
                    refine J.seq ?_
                    refine J.region ?_
                    refine RJ.run ttok 2 rfl ?_
                    refine RJ.q rfl rfl (q_load_box ttok 0 (fun w e => e ▸ h6.wh) rfl rfl rfl rfl rfl) ?_
                    refine RJ.run ttok 2 rfl ?_
                    refine RJ.fin [(1, .pointer (some ⟨b1, 0, none⟩)), (5, .int .i64 x3), (61, .bool (decide (x3 < (a0.2.2.2.2.length : Int))))] rfl ?_
                    refine J.cond rfl (fun c9 => ?_) (fun c9 => ?_)
                    · replace H := ite_t c9 H
                      refine J.skip ?_
                      refine J.seq ?_
                      refine J.block ?_
                      refine J.seq ?_
                      refine J.region ?_
                      refine RJ.run ttok 1 rfl ?_
                      refine RJ.q rfl rfl (q_load_box ttok 0 (fun w e => e ▸ h6.wh) rfl rfl rfl rfl rfl) ?_
                      refine RJ.run ttok 1 rfl ?_
                      obtain ⟨⟨p5, p6⟩, H⟩ := guard_t H
                      have e3 := elem_A h6.wh (Gives.self 4 rfl) p5 p6
                      refine RJ.q rfl rfl (q_index ttok rfl rfl rfl rfl rfl e3 p5 p6) ?_
                      refine RJ.run ttok 1 rfl ?_
                      refine RJ.q rfl rfl (q_load_elem (f := 0) ttok rfl (fun w e => e ▸ h6.wh) (Gives.self 4 rfl) p5 p6 rfl rfl rfl rfl rfl) ?_
                      refine RJ.run ttok 2 rfl ?_
                      refine RJ.fin [(1, .pointer (some ⟨b1, 0, none⟩)), (5, .int .i64 x3), (71, .bool (decide (200 < (((gt a0.2.2.2.2 x3).1).length : Int))))] rfl ?_
                      refine J.cond rfl (fun c10 => ?_) (fun c10 => ?_)
                      · replace H := ite_t c10 H
                        refine J.seq ?_
                        refine J.region ?_
                        refine RJ.run ttok 1 rfl ?_
                        refine RJ.fin [(2, .bool true)] rfl ?_
                        refine J.ret ?_
                        obtain rfl := Option.some.inj H
                        exact ⟨_, _, _, (results_slots rfl), ⟨rfl, rfl⟩, h6.only [] rfl⟩
                      · replace H := ite_f c10 H
                        refine J.skip ?_
                        refine J.region ?_
                        refine RJ.run ttok 3 rfl ?_
                        refine RJ.fin [(1, .pointer (some ⟨b1, 0, none⟩)), (5, .int .i64 (w64 (x3 + 1)))] rfl ?_
                        have h7 := ((h6.only [0] rfl).rds [0, 1, 2, 3] rfl)
                        exact ⟨k3, by omega, (w64 (x3 + 1)), rfl, h7, H⟩
                    · replace H := ite_f c9 H
                      refine J.exit ?_
                      refine J.seq ?_
                      refine J.region ?_
                      refine RJ.run ttok 1 rfl ?_
                      refine RJ.fin [(2, .bool false)] rfl ?_
                      refine J.ret ?_
                      obtain rfl := Option.some.inj H
                      exact ⟨_, _, _, (results_slots rfl), ⟨rfl, rfl⟩, h6.only [] rfl⟩

/-! sluicegate/sluicegateref09.in -/
def sluicegateref09_in.f (a0 : Int) (a1 : Int) (a2 : Int) : Option (Bool) := if (decide (a1 ≤ a0)) = true then (some (decide (a0 ≤ a2))) else (some false)
set_option maxRecDepth 20000 in
set_option maxHeartbeats 4000000 in
theorem sluicegateref09_in.spec {a0 : Int} {a1 : Int} {a2 : Int}  {r : Bool} (H : sluicegateref09_in.f a0 a1 a2 = some r) :
    Spec Try.prog 91 [.int .i64 a0, .int .i64 a1, .int .i64 a2] [] [] (fun v l => v = .bool r ∧ l = []) := by
  refine Spec.enter Try.func91 rfl (by kernel_rfl) (by kernel_rfl) fun w0 F0 h0 => ?_
  unfold sluicegateref09_in.f at H
  refine J.seq ?_
  refine J.region ?_
  refine RJ.run ttok 1 rfl ?_
  refine RJ.fin [(0, .int .i64 a0), (1, .int .i64 a1), (2, .int .i64 a2)] rfl ?_
  refine J.seq ?_
  refine J.region ?_
  refine RJ.run ttok 4 rfl ?_
  rcases Bool.eq_false_or_eq_true (decide (a1 ≤ a0)) with c1 | c1
  · replace H := ite_t c1 H
    refine RJ.know (t := 10) rfl (congrArg Value.bool c1) ?_
    refine RJ.run ttok 5 rfl ?_
    refine RJ.fin [(6, .bool (decide (a0 ≤ a2)))] rfl ?_
    refine J.ret ?_
    obtain rfl := Option.some.inj H
    exact ⟨_, _, _, (results_slots rfl), ⟨rfl, rfl⟩, h0.only [] rfl⟩
  · replace H := ite_f c1 H
    refine RJ.know (t := 10) rfl (congrArg Value.bool c1) ?_
    refine RJ.run ttok 5 rfl ?_
    refine RJ.fin [(6, .bool false)] rfl ?_
    refine J.ret ?_
    obtain rfl := Option.some.inj H
    exact ⟨_, _, _, (results_slots rfl), ⟨rfl, rfl⟩, h0.only [] rfl⟩

/-! sluicegate/sluicegateref09.Sized -/
def sluicegateref09_Sized.f (a0 : Int × Int × Int × Int × Int × Int × Int × Int) : Option (Bool) := (sluicegateref09_in.f a0.2.2.2.1 8 64).bind fun r1 => (if (!r1) = true then (some false) else ((sluicegateref09_in.f a0.2.2.2.2.2.2.1 1 64).bind fun r2 => (if (!r2) = true then (some false) else ((sluicegateref09_in.f a0.2.2.2.2.2.2.2 0 256).bind fun r3 => (if (!r3) = true then (some false) else ((sluicegateref09_in.f a0.2.2.2.2.1 (w64 (2 * a0.2.2.2.1)) 512).bind fun r4 => (if r4 = true then ((sluicegateref09_in.f a0.2.2.2.2.2.1 a0.2.2.2.2.1 1024).bind fun r5 => (some r5)) else (some false))))))))
set_option maxRecDepth 20000 in
set_option maxHeartbeats 4000000 in
theorem sluicegateref09_Sized.spec {a0 : Int × Int × Int × Int × Int × Int × Int × Int}  {r : Bool} (H : sluicegateref09_Sized.f a0 = some r) :
    Spec Try.prog 90 [.agg #[.int .i64 a0.1, .int .i64 a0.2.1, .int .i64 a0.2.2.1, .int .i64 a0.2.2.2.1, .int .i64 a0.2.2.2.2.1, .int .i64 a0.2.2.2.2.2.1, .int .i64 a0.2.2.2.2.2.2.1, .int .i64 a0.2.2.2.2.2.2.2]] [] [] (fun v l => v = .bool r ∧ l = []) := by
  refine Spec.enter Try.func90 rfl (by kernel_rfl) (by kernel_rfl) fun w0 F0 h0 => ?_
  unfold sluicegateref09_Sized.f at H
  refine J.seq ?_
  refine J.region ?_
  refine RJ.op rfl rfl (op_box rfl rfl h0) ?_
  rintro _ w1 ⟨b1, rfl, h1⟩
  refine RJ.run ttok 1 rfl ?_
  refine RJ.fin [(1, .pointer (some ⟨b1, 0, none⟩))] rfl ?_
  refine J.seq ?_
  refine J.seq ?_
  refine J.region ?_
  refine RJ.run ttok 1 rfl ?_
  refine RJ.q rfl rfl (q_load_box ttok 0 (fun w e => e ▸ h1.wh) rfl rfl rfl rfl rfl) ?_
  obtain ⟨r1, q1, H⟩ := bind_t H
  refine RJ.op rfl rfl (op_call [] (sluicegateref09_in.spec q1) rfl rfl rfl h1 rfl gnil) ?_
  rintro _ w2 ⟨_, ⟨rfl, rfl⟩, h2⟩
  refine RJ.run ttok 2 rfl ?_
  rcases Bool.eq_false_or_eq_true (!r1) with c1 | c1
  · replace H := ite_t c1 H
    refine RJ.know (t := 7) rfl (congrArg Value.bool c1) ?_
    refine RJ.run ttok 11 rfl ?_
    refine RJ.fin [(1, .pointer (some ⟨b1, 0, none⟩)), (18, .bool true)] rfl ?_
    refine J.condT rfl ?_
    refine J.seq ?_
    refine J.region ?_
    refine RJ.run ttok 1 rfl ?_
    refine RJ.fin [(2, .bool false)] rfl ?_
    refine J.ret ?_
    obtain rfl := Option.some.inj H
    exact ⟨_, _, _, (results_slots rfl), ⟨rfl, rfl⟩, h2.only [] rfl⟩
  · replace H := ite_f c1 H
    refine RJ.know (t := 7) rfl (congrArg Value.bool c1) ?_
    refine RJ.run ttok 1 rfl ?_
    refine RJ.q rfl rfl (q_load_box ttok 0 (fun w e => e ▸ h2.wh) rfl rfl rfl rfl rfl) ?_
    obtain ⟨r2, q2, H⟩ := bind_t H
    refine RJ.op rfl rfl (op_call [] (sluicegateref09_in.spec q2) rfl rfl rfl h2 rfl gnil) ?_
    rintro _ w3 ⟨_, ⟨rfl, rfl⟩, h3⟩
    refine RJ.run ttok 3 rfl ?_
    rcases Bool.eq_false_or_eq_true (!r2) with c2 | c2
    · replace H := ite_t c2 H
      refine RJ.know (t := 13) rfl (congrArg Value.bool c2) ?_
      refine RJ.run ttok 5 rfl ?_
      refine RJ.fin [(1, .pointer (some ⟨b1, 0, none⟩)), (18, .bool true)] rfl ?_
      refine J.condT rfl ?_
      refine J.seq ?_
      refine J.region ?_
      refine RJ.run ttok 1 rfl ?_
      refine RJ.fin [(2, .bool false)] rfl ?_
      refine J.ret ?_
      obtain rfl := Option.some.inj H
      exact ⟨_, _, _, (results_slots rfl), ⟨rfl, rfl⟩, h3.only [] rfl⟩
    · replace H := ite_f c2 H
      refine RJ.know (t := 13) rfl (congrArg Value.bool c2) ?_
      refine RJ.run ttok 1 rfl ?_
      refine RJ.q rfl rfl (q_load_box ttok 0 (fun w e => e ▸ h3.wh) rfl rfl rfl rfl rfl) ?_
      obtain ⟨r3, q3, H⟩ := bind_t H
      refine RJ.op rfl rfl (op_call [] (sluicegateref09_in.spec q3) rfl rfl rfl h3 rfl gnil) ?_
      rintro _ w4 ⟨_, ⟨rfl, rfl⟩, h4⟩
      refine RJ.run ttok 2 rfl ?_
      refine RJ.fin [(1, .pointer (some ⟨b1, 0, none⟩)), (18, .bool (!r3))] rfl ?_
      refine J.cond rfl (fun c3 => ?_) (fun c3 => ?_)
      · replace H := ite_t c3 H
        refine J.seq ?_
        refine J.region ?_
        refine RJ.run ttok 1 rfl ?_
        refine RJ.fin [(2, .bool false)] rfl ?_
        refine J.ret ?_
        obtain rfl := Option.some.inj H
        exact ⟨_, _, _, (results_slots rfl), ⟨rfl, rfl⟩, h4.only [] rfl⟩
      · replace H := ite_f c3 H
        refine J.skip ?_
        refine J.seq ?_
        refine J.region ?_
        refine RJ.run ttok 1 rfl ?_
        refine RJ.q rfl rfl (q_load_box ttok 0 (fun w e => e ▸ h4.wh) rfl rfl rfl rfl rfl) ?_
        refine RJ.run ttok 1 rfl ?_
        refine RJ.q rfl rfl (q_load_box ttok 0 (fun w e => e ▸ h4.wh) rfl rfl rfl rfl rfl) ?_
        refine RJ.run ttok 1 rfl ?_
        obtain ⟨r4, q4, H⟩ := bind_t H
        refine RJ.op rfl rfl (op_call [] (sluicegateref09_in.spec q4) rfl rfl rfl h4 rfl gnil) ?_
        rintro _ w5 ⟨_, ⟨rfl, rfl⟩, h5⟩
        refine RJ.run ttok 1 rfl ?_
        rcases Bool.eq_false_or_eq_true r4 with c4 | c4
        · replace H := ite_t c4 H
          refine RJ.know (t := 25) rfl (congrArg Value.bool c4) ?_
          refine RJ.run ttok 1 rfl ?_
          refine RJ.q rfl rfl (q_load_box ttok 0 (fun w e => e ▸ h5.wh) rfl rfl rfl rfl rfl) ?_
          refine RJ.run ttok 1 rfl ?_
          refine RJ.q rfl rfl (q_load_box ttok 0 (fun w e => e ▸ h5.wh) rfl rfl rfl rfl rfl) ?_
          obtain ⟨r5, q5, H⟩ := bind_t H
          refine RJ.op rfl rfl (op_call [] (sluicegateref09_in.spec q5) rfl rfl rfl h5 rfl gnil) ?_
          rintro _ w6 ⟨_, ⟨rfl, rfl⟩, h6⟩
          refine RJ.run ttok 2 rfl ?_
          refine RJ.fin [(2, .bool r5)] rfl ?_
          refine J.ret ?_
          obtain rfl := Option.some.inj H
          exact ⟨_, _, _, (results_slots rfl), ⟨rfl, rfl⟩, h6.only [] rfl⟩
        · replace H := ite_f c4 H
          refine RJ.know (t := 25) rfl (congrArg Value.bool c4) ?_
          refine RJ.run ttok 7 rfl ?_
          refine RJ.fin [(2, .bool false)] rfl ?_
          refine J.ret ?_
          obtain rfl := Option.some.inj H
          exact ⟨_, _, _, (results_slots rfl), ⟨rfl, rfl⟩, h5.only [] rfl⟩

/-! sluicegate/sluicegateref09.Inner -/
def sluicegateref09_Inner.l1 : Nat → (Int × Int × Int × Int × Int × Int × Int × Int) → (Int) → (Int) → Option (Int)
  | 0, _, _, _ => none
  | k + 1, a0, x3, x4 => if (decide (x4 < a0.2.2.2.2.1)) = true then (sluicegateref09_Inner.l1 k a0 (w64 ((w64 ((w64 (x3 + 4)) + a0.2.2.2.2.2.2.1)) + a0.2.2.2.2.2.2.2)) (w64 (x4 + 1))) else (some x3)
def sluicegateref09_Inner.l0 : Nat → (Int × Int × Int × Int × Int × Int × Int × Int) → (Int) → (Int) → Option (Int)
  | 0, _, _, _ => none
  | k + 1, a0, x1, x2 => if (decide (x2 < a0.2.2.2.1)) = true then (if (decide (0 < x2)) = true then (sluicegateref09_Inner.l0 k a0 (w64 ((w64 ((w64 (x1 + 4)) + 1)) + a0.2.2.2.2.2.2.1)) (w64 (x2 + 1))) else (sluicegateref09_Inner.l0 k a0 (w64 (x1 + 4)) (w64 (x2 + 1)))) else (sluicegateref09_Inner.l1 k a0 x1 0)
def sluicegateref09_Inner.f (k : Nat) (a0 : Int × Int × Int × Int × Int × Int × Int × Int) : Option (Int) := (sluicegateref09_Sized.f (a0.1, a0.2.1, a0.2.2.1, a0.2.2.2.1, a0.2.2.2.2.1, a0.2.2.2.2.2.1, a0.2.2.2.2.2.2.1, a0.2.2.2.2.2.2.2)).bind fun r1 => (if (!r1) = true then (some 0) else (sluicegateref09_Inner.l0 k a0 8 0))
set_option maxRecDepth 20000 in
set_option maxHeartbeats 4000000 in
theorem sluicegateref09_Inner.spec {k : Nat} {a0 : Int × Int × Int × Int × Int × Int × Int × Int}  {r : Int} (H : sluicegateref09_Inner.f k a0 = some r) :
    Spec Try.prog 92 [.agg #[.int .i64 a0.1, .int .i64 a0.2.1, .int .i64 a0.2.2.1, .int .i64 a0.2.2.2.1, .int .i64 a0.2.2.2.2.1, .int .i64 a0.2.2.2.2.2.1, .int .i64 a0.2.2.2.2.2.2.1, .int .i64 a0.2.2.2.2.2.2.2]] [] [] (fun v l => v = .int .i64 r ∧ l = []) := by
  refine Spec.enter Try.func92 rfl (by kernel_rfl) (by kernel_rfl) fun w0 F0 h0 => ?_
  unfold sluicegateref09_Inner.f at H
  refine J.seq ?_
  refine J.region ?_
  refine RJ.op rfl rfl (op_box rfl rfl h0) ?_
  rintro _ w1 ⟨b1, rfl, h1⟩
  refine RJ.run ttok 1 rfl ?_
  refine RJ.fin [(1, .pointer (some ⟨b1, 0, none⟩))] rfl ?_
  refine J.seq ?_
  refine J.seq ?_
  refine J.region ?_
  refine RJ.q rfl rfl (q_load_box ttok 0 (fun w e => e ▸ h1.wh) rfl rfl rfl rfl rfl) ?_
  obtain ⟨r1, q1, H⟩ := bind_t H
  refine RJ.op rfl rfl (op_call [] (sluicegateref09_Sized.spec q1) rfl rfl rfl h1 rfl gnil) ?_
  rintro _ w2 ⟨_, ⟨rfl, rfl⟩, h2⟩
  refine RJ.run ttok 1 rfl ?_
  refine RJ.fin [(1, .pointer (some ⟨b1, 0, none⟩)), (8, .bool (!r1))] rfl ?_
  refine J.cond rfl (fun c1 => ?_) (fun c1 => ?_)
  · replace H := ite_t c1 H
    refine J.seq ?_
    refine J.region ?_
    refine RJ.run ttok 1 rfl ?_
    refine RJ.fin [(2, .int .i64 0)] rfl ?_
    refine J.ret ?_
    obtain rfl := Option.some.inj H
    exact ⟨_, _, _, (results_slots rfl), ⟨rfl, rfl⟩, h2.only [] rfl⟩
  · replace H := ite_f c1 H
    refine J.skip ?_
    refine J.seq ?_
    refine J.region ?_
    refine RJ.run ttok 1 rfl ?_
    refine RJ.fin [(1, .pointer (some ⟨b1, 0, none⟩)), (3, .int .i64 8)] rfl ?_
    refine J.seq ?_
    refine J.seq ?_
    refine J.region ?_
    refine RJ.run ttok 1 rfl ?_
    refine RJ.fin [(1, .pointer (some ⟨b1, 0, none⟩)), (3, .int .i64 8), (4, .int .i64 0)] rfl ?_
    refine J.block ?_
    have h9 := ((h2.only [0] rfl).rds [] rfl)
    refine J.loop (fun k env w => ∃ (x1 : Int) (x2 : Int), env = [(1, .pointer (some ⟨b1, 0, none⟩)), (3, .int .i64 x1), (4, .int .i64 x2)] ∧ St w0 F0 [boxC b1 23 [.int .i64 a0.1, .int .i64 a0.2.1, .int .i64 a0.2.2.1, .int .i64 a0.2.2.2.1, .int .i64 a0.2.2.2.2.1, .int .i64 a0.2.2.2.2.2.1, .int .i64 a0.2.2.2.2.2.2.1, .int .i64 a0.2.2.2.2.2.2.2]] [] w ∧ sluicegateref09_Inner.l0 k a0 x1 x2 = some r) (k := k) ⟨8, 0, rfl, h9, H⟩ ?_
    rintro k1 env w3 ⟨x1, x2, rfl, h3, H⟩
    cases k1 with
    | zero => exact nomatch (show none = some r from H)
    | succ k1 =>
      rw [sluicegateref09_Inner.l0] at H
      refine J.seq ?_
      refine J.seq ?_
      refine J.region ?_
      refine RJ.run ttok 2 rfl ?_
      refine RJ.q rfl rfl (q_load_box ttok 0 (fun w e => e ▸ h3.wh) rfl rfl rfl rfl rfl) ?_
      refine RJ.run ttok 1 rfl ?_
      refine RJ.fin [(1, .pointer (some ⟨b1, 0, none⟩)), (3, .int .i64 x1), (4, .int .i64 x2), (12, .bool (decide (x2 < a0.2.2.2.1)))] rfl ?_
      refine J.cond rfl (fun c2 => ?_) (fun c2 => ?_)
      · replace H := ite_t c2 H
        refine J.skip ?_
        refine J.seq ?_
        refine J.block ?_
        refine J.seq ?_
        refine J.region ?_
        refine RJ.run ttok 3 rfl ?_
        refine RJ.fin [(1, .pointer (some ⟨b1, 0, none⟩)), (3, .int .i64 (w64 (x1 + 4))), (4, .int .i64 x2)] rfl ?_
        refine J.seq ?_
        refine J.region ?_
        refine RJ.run ttok 2 rfl ?_
        refine RJ.fin [(1, .pointer (some ⟨b1, 0, none⟩)), (3, .int .i64 (w64 (x1 + 4))), (4, .int .i64 x2), (18, .bool (decide (0 < x2)))] rfl ?_
        refine J.cond rfl (fun c3 => ?_) (fun c3 => ?_)
        · replace H := ite_t c3 H
          refine J.region ?_
          refine RJ.run ttok 3 rfl ?_
          refine RJ.q rfl rfl (q_load_box ttok 0 (fun w e => e ▸ h3.wh) rfl rfl rfl rfl rfl) ?_
          refine RJ.run ttok 2 rfl ?_
          refine RJ.fin [(1, .pointer (some ⟨b1, 0, none⟩)), (3, .int .i64 (w64 ((w64 ((w64 (x1 + 4)) + 1)) + a0.2.2.2.2.2.2.1))), (4, .int .i64 x2)] rfl ?_
          refine J.region ?_
          refine RJ.run ttok 3 rfl ?_
          refine RJ.fin [(1, .pointer (some ⟨b1, 0, none⟩)), (3, .int .i64 (w64 ((w64 ((w64 (x1 + 4)) + 1)) + a0.2.2.2.2.2.2.1))), (4, .int .i64 (w64 (x2 + 1)))] rfl ?_
          have h4 := ((h3.only [0] rfl).rds [] rfl)
          exact ⟨k1, by omega, (w64 ((w64 ((w64 (x1 + 4)) + 1)) + a0.2.2.2.2.2.2.1)), (w64 (x2 + 1)), rfl, h4, H⟩
        · replace H := ite_f c3 H
          refine J.skip ?_
          refine J.region ?_
          refine RJ.run ttok 3 rfl ?_
          refine RJ.fin [(1, .pointer (some ⟨b1, 0, none⟩)), (3, .int .i64 (w64 (x1 + 4))), (4, .int .i64 (w64 (x2 + 1)))] rfl ?_
          have h5 := ((h3.only [0] rfl).rds [] rfl)
          exact ⟨k1, by omega, (w64 (x1 + 4)), (w64 (x2 + 1)), rfl, h5, H⟩
      · replace H := ite_f c2 H
        refine J.exit ?_
        refine J.seq ?_
        refine J.seq ?_
        refine J.region ?_
        refine RJ.run ttok 1 rfl ?_
        refine RJ.fin [(1, .pointer (some ⟨b1, 0, none⟩)), (3, .int .i64 x1), (5, .int .i64 0)] rfl ?_
        refine J.block ?_
        have h8 := ((h3.only [0] rfl).rds [] rfl)
        refine J.loop (fun k env w => ∃ (x3 : Int) (x4 : Int), env = [(1, .pointer (some ⟨b1, 0, none⟩)), (3, .int .i64 x3), (5, .int .i64 x4)] ∧ St w0 F0 [boxC b1 23 [.int .i64 a0.1, .int .i64 a0.2.1, .int .i64 a0.2.2.1, .int .i64 a0.2.2.2.1, .int .i64 a0.2.2.2.2.1, .int .i64 a0.2.2.2.2.2.1, .int .i64 a0.2.2.2.2.2.2.1, .int .i64 a0.2.2.2.2.2.2.2]] [] w ∧ sluicegateref09_Inner.l1 k a0 x3 x4 = some r) (k := k1) ⟨x1, 0, rfl, h8, H⟩ ?_
        rintro k2 env w4 ⟨x3, x4, rfl, h6, H⟩
        cases k2 with
        | zero => exact nomatch (show none = some r from H)
        | succ k2 =>
          rw [sluicegateref09_Inner.l1] at H
          refine J.seq ?_
          refine J.seq ?_
          refine J.region ?_
          refine RJ.run ttok 2 rfl ?_
          refine RJ.q rfl rfl (q_load_box ttok 0 (fun w e => e ▸ h6.wh) rfl rfl rfl rfl rfl) ?_
          refine RJ.run ttok 1 rfl ?_
          refine RJ.fin [(1, .pointer (some ⟨b1, 0, none⟩)), (3, .int .i64 x3), (5, .int .i64 x4), (27, .bool (decide (x4 < a0.2.2.2.2.1)))] rfl ?_
          refine J.cond rfl (fun c4 => ?_) (fun c4 => ?_)
          · replace H := ite_t c4 H
            refine J.skip ?_
            refine J.seq ?_
            refine J.block ?_
            refine J.region ?_
            refine RJ.run ttok 3 rfl ?_
            refine RJ.q rfl rfl (q_load_box ttok 0 (fun w e => e ▸ h6.wh) rfl rfl rfl rfl rfl) ?_
            refine RJ.run ttok 2 rfl ?_
            refine RJ.q rfl rfl (q_load_box ttok 0 (fun w e => e ▸ h6.wh) rfl rfl rfl rfl rfl) ?_
            refine RJ.run ttok 2 rfl ?_
            refine RJ.fin [(1, .pointer (some ⟨b1, 0, none⟩)), (3, .int .i64 (w64 ((w64 ((w64 (x3 + 4)) + a0.2.2.2.2.2.2.1)) + a0.2.2.2.2.2.2.2))), (5, .int .i64 x4)] rfl ?_
            refine J.region ?_
            refine RJ.run ttok 3 rfl ?_
            refine RJ.fin [(1, .pointer (some ⟨b1, 0, none⟩)), (3, .int .i64 (w64 ((w64 ((w64 (x3 + 4)) + a0.2.2.2.2.2.2.1)) + a0.2.2.2.2.2.2.2))), (5, .int .i64 (w64 (x4 + 1)))] rfl ?_
            have h7 := ((h6.only [0] rfl).rds [] rfl)
            exact ⟨k2, by omega, (w64 ((w64 ((w64 (x3 + 4)) + a0.2.2.2.2.2.2.1)) + a0.2.2.2.2.2.2.2)), (w64 (x4 + 1)), rfl, h7, H⟩
          · replace H := ite_f c4 H
            refine J.exit ?_
            refine J.seq ?_
            refine J.region ?_
            refine RJ.run ttok 2 rfl ?_
            refine RJ.fin [(2, .int .i64 x3)] rfl ?_
            refine J.ret ?_
            obtain rfl := Option.some.inj H
            exact ⟨_, _, _, (results_slots rfl), ⟨rfl, rfl⟩, h6.only [] rfl⟩

/-! sluicegate/sluicegateref09.Outer -/
def sluicegateref09_Outer.l0 : Nat → (Int × Int × Int × Int × Int × Int × Int × Int) → (Int) → (Int) → Option (Int)
  | 0, _, _, _ => none
  | k + 1, a0, x1, x2 => if (decide (x2 < a0.2.2.2.2.2.1)) = true then (sluicegateref09_Outer.l0 k a0 (w64 ((w64 ((w64 (x1 + 3)) + a0.2.2.2.2.2.2.1)) + a0.2.2.2.2.2.2.2)) (w64 (x2 + 1))) else (some x1)
def sluicegateref09_Outer.f (k : Nat) (a0 : Int × Int × Int × Int × Int × Int × Int × Int) : Option (Int) := (sluicegateref09_Sized.f (a0.1, a0.2.1, a0.2.2.1, a0.2.2.2.1, a0.2.2.2.2.1, a0.2.2.2.2.2.1, a0.2.2.2.2.2.2.1, a0.2.2.2.2.2.2.2)).bind fun r1 => (if (!r1) = true then (some 0) else (sluicegateref09_Outer.l0 k a0 8 0))
set_option maxRecDepth 20000 in
set_option maxHeartbeats 4000000 in
theorem sluicegateref09_Outer.spec {k : Nat} {a0 : Int × Int × Int × Int × Int × Int × Int × Int}  {r : Int} (H : sluicegateref09_Outer.f k a0 = some r) :
    Spec Try.prog 93 [.agg #[.int .i64 a0.1, .int .i64 a0.2.1, .int .i64 a0.2.2.1, .int .i64 a0.2.2.2.1, .int .i64 a0.2.2.2.2.1, .int .i64 a0.2.2.2.2.2.1, .int .i64 a0.2.2.2.2.2.2.1, .int .i64 a0.2.2.2.2.2.2.2]] [] [] (fun v l => v = .int .i64 r ∧ l = []) := by
  refine Spec.enter Try.func93 rfl (by kernel_rfl) (by kernel_rfl) fun w0 F0 h0 => ?_
  unfold sluicegateref09_Outer.f at H
  refine J.seq ?_
  refine J.region ?_
  refine RJ.op rfl rfl (op_box rfl rfl h0) ?_
  rintro _ w1 ⟨b1, rfl, h1⟩
  refine RJ.run ttok 1 rfl ?_
  refine RJ.fin [(1, .pointer (some ⟨b1, 0, none⟩))] rfl ?_
  refine J.seq ?_
  refine J.seq ?_
  refine J.region ?_
  refine RJ.q rfl rfl (q_load_box ttok 0 (fun w e => e ▸ h1.wh) rfl rfl rfl rfl rfl) ?_
  obtain ⟨r1, q1, H⟩ := bind_t H
  refine RJ.op rfl rfl (op_call [] (sluicegateref09_Sized.spec q1) rfl rfl rfl h1 rfl gnil) ?_
  rintro _ w2 ⟨_, ⟨rfl, rfl⟩, h2⟩
  refine RJ.run ttok 1 rfl ?_
  refine RJ.fin [(1, .pointer (some ⟨b1, 0, none⟩)), (7, .bool (!r1))] rfl ?_
  refine J.cond rfl (fun c1 => ?_) (fun c1 => ?_)
  · replace H := ite_t c1 H
    refine J.seq ?_
    refine J.region ?_
    refine RJ.run ttok 1 rfl ?_
    refine RJ.fin [(2, .int .i64 0)] rfl ?_
    refine J.ret ?_
    obtain rfl := Option.some.inj H
    exact ⟨_, _, _, (results_slots rfl), ⟨rfl, rfl⟩, h2.only [] rfl⟩
  · replace H := ite_f c1 H
    refine J.skip ?_
    refine J.seq ?_
    refine J.region ?_
    refine RJ.run ttok 1 rfl ?_
    refine RJ.fin [(1, .pointer (some ⟨b1, 0, none⟩)), (3, .int .i64 8)] rfl ?_
    refine J.seq ?_
    refine J.seq ?_
    refine J.region ?_
    refine RJ.run ttok 1 rfl ?_
    refine RJ.fin [(1, .pointer (some ⟨b1, 0, none⟩)), (3, .int .i64 8), (4, .int .i64 0)] rfl ?_
    refine J.block ?_
    have h5 := ((h2.only [0] rfl).rds [] rfl)
    refine J.loop (fun k env w => ∃ (x1 : Int) (x2 : Int), env = [(1, .pointer (some ⟨b1, 0, none⟩)), (3, .int .i64 x1), (4, .int .i64 x2)] ∧ St w0 F0 [boxC b1 23 [.int .i64 a0.1, .int .i64 a0.2.1, .int .i64 a0.2.2.1, .int .i64 a0.2.2.2.1, .int .i64 a0.2.2.2.2.1, .int .i64 a0.2.2.2.2.2.1, .int .i64 a0.2.2.2.2.2.2.1, .int .i64 a0.2.2.2.2.2.2.2]] [] w ∧ sluicegateref09_Outer.l0 k a0 x1 x2 = some r) (k := k) ⟨8, 0, rfl, h5, H⟩ ?_
    rintro k1 env w3 ⟨x1, x2, rfl, h3, H⟩
    cases k1 with
    | zero => exact nomatch (show none = some r from H)
    | succ k1 =>
      rw [sluicegateref09_Outer.l0] at H
      refine J.seq ?_
      refine J.seq ?_
      refine J.region ?_
      refine RJ.run ttok 2 rfl ?_
      refine RJ.q rfl rfl (q_load_box ttok 0 (fun w e => e ▸ h3.wh) rfl rfl rfl rfl rfl) ?_
      refine RJ.run ttok 1 rfl ?_
      refine RJ.fin [(1, .pointer (some ⟨b1, 0, none⟩)), (3, .int .i64 x1), (4, .int .i64 x2), (11, .bool (decide (x2 < a0.2.2.2.2.2.1)))] rfl ?_
      refine J.cond rfl (fun c2 => ?_) (fun c2 => ?_)
      · replace H := ite_t c2 H
        refine J.skip ?_
        refine J.seq ?_
        refine J.block ?_
        refine J.region ?_
        refine RJ.run ttok 3 rfl ?_
        refine RJ.q rfl rfl (q_load_box ttok 0 (fun w e => e ▸ h3.wh) rfl rfl rfl rfl rfl) ?_
        refine RJ.run ttok 2 rfl ?_
        refine RJ.q rfl rfl (q_load_box ttok 0 (fun w e => e ▸ h3.wh) rfl rfl rfl rfl rfl) ?_
        refine RJ.run ttok 2 rfl ?_
        refine RJ.fin [(1, .pointer (some ⟨b1, 0, none⟩)), (3, .int .i64 (w64 ((w64 ((w64 (x1 + 3)) + a0.2.2.2.2.2.2.1)) + a0.2.2.2.2.2.2.2))), (4, .int .i64 x2)] rfl ?_
        refine J.region ?_
        refine RJ.run ttok 3 rfl ?_
        refine RJ.fin [(1, .pointer (some ⟨b1, 0, none⟩)), (3, .int .i64 (w64 ((w64 ((w64 (x1 + 3)) + a0.2.2.2.2.2.2.1)) + a0.2.2.2.2.2.2.2))), (4, .int .i64 (w64 (x2 + 1)))] rfl ?_
        have h4 := ((h3.only [0] rfl).rds [] rfl)
        exact ⟨k1, by omega, (w64 ((w64 ((w64 (x1 + 3)) + a0.2.2.2.2.2.2.1)) + a0.2.2.2.2.2.2.2)), (w64 (x2 + 1)), rfl, h4, H⟩
      · replace H := ite_f c2 H
        refine J.exit ?_
        refine J.seq ?_
        refine J.region ?_
        refine RJ.run ttok 2 rfl ?_
        refine RJ.fin [(2, .int .i64 x1)] rfl ?_
        refine J.ret ?_
        obtain rfl := Option.some.inj H
        exact ⟨_, _, _, (results_slots rfl), ⟨rfl, rfl⟩, h3.only [] rfl⟩

/-! sluicegate/sluicegateref09.Right -/
def sluicegateref09_Right.f (k : Nat) (a0 : Int × Int × Int × Int × Int × Int × Int × Int) : Option (Bool) := (sluicegateref09_Sized.f (a0.1, a0.2.1, a0.2.2.1, a0.2.2.2.1, a0.2.2.2.2.1, a0.2.2.2.2.2.1, a0.2.2.2.2.2.2.1, a0.2.2.2.2.2.2.2)).bind fun r1 => (if r1 = true then ((sluicegateref09_in.f a0.1 5 65536).bind fun r2 => (if r2 = true then ((sluicegateref09_in.f a0.2.2.1 8 64).bind fun r3 => (if r3 = true then ((sluicegateref09_in.f a0.2.1 64 65536).bind fun r4 => (if r4 = true then ((sluicegateref09_Inner.f k (a0.1, a0.2.1, a0.2.2.1, a0.2.2.2.1, a0.2.2.2.2.1, a0.2.2.2.2.2.1, a0.2.2.2.2.2.2.1, a0.2.2.2.2.2.2.2)).bind fun r5 => (if (decide (r5 ≤ a0.2.1)) = true then ((sluicegateref09_Outer.f k (a0.1, a0.2.1, a0.2.2.1, a0.2.2.2.1, a0.2.2.2.2.1, a0.2.2.2.2.2.1, a0.2.2.2.2.2.2.1, a0.2.2.2.2.2.2.2)).bind fun r6 => (some (decide (r6 ≤ a0.2.1)))) else (some false))) else (some false))) else (some false))) else (some false))) else (some false))
set_option maxRecDepth 20000 in
set_option maxHeartbeats 4000000 in
theorem sluicegateref09_Right.spec {k : Nat} {a0 : Int × Int × Int × Int × Int × Int × Int × Int}  {r : Bool} (H : sluicegateref09_Right.f k a0 = some r) :
    Spec Try.prog 57 [.agg #[.int .i64 a0.1, .int .i64 a0.2.1, .int .i64 a0.2.2.1, .int .i64 a0.2.2.2.1, .int .i64 a0.2.2.2.2.1, .int .i64 a0.2.2.2.2.2.1, .int .i64 a0.2.2.2.2.2.2.1, .int .i64 a0.2.2.2.2.2.2.2]] [] [] (fun v l => v = .bool r ∧ l = []) := by
  refine Spec.enter Try.func57 rfl (by kernel_rfl) (by kernel_rfl) fun w0 F0 h0 => ?_
  unfold sluicegateref09_Right.f at H
  refine J.seq ?_
  refine J.region ?_
  refine RJ.op rfl rfl (op_box rfl rfl h0) ?_
  rintro _ w1 ⟨b1, rfl, h1⟩
  refine RJ.run ttok 1 rfl ?_
  refine RJ.fin [(1, .pointer (some ⟨b1, 0, none⟩))] rfl ?_
  refine J.seq ?_
  refine J.heldSt mix h1 ?_
  have h2 := h1.drew
  refine HJ.q (i := 0) rfl rfl rfl rfl rfl rfl (q_load_box ttok 0 (fun w e => e) rfl rfl rfl rfl rfl) ?_
  obtain ⟨r1, q1, H⟩ := bind_t H
  refine HJ.op (i := 1) rfl rfl rfl rfl rfl (op_call [] (sluicegateref09_Sized.spec q1) rfl rfl rfl h2 rfl gnil) ?_
  rintro _ w2 ⟨_, ⟨rfl, rfl⟩, h3⟩
  refine ⟨⟨[], h3⟩, ?_⟩
  refine HJ.run ttok rfl [2] rfl ?_
  rcases Bool.eq_false_or_eq_true r1 with c1 | c1
  · replace H := ite_t c1 H
    refine HJ.know (t := 5) rfl (congrArg Value.bool c1) ?_
    refine HJ.run ttok rfl [3] rfl ?_
    refine HJ.q (i := 4) rfl rfl rfl rfl rfl rfl (q_load_box ttok 0 (fun w e => e) rfl rfl rfl rfl rfl) ?_
    obtain ⟨r2, q2, H⟩ := bind_t H
    refine HJ.op (i := 5) rfl rfl rfl rfl rfl (op_call [] (sluicegateref09_in.spec q2) rfl rfl rfl h3 rfl gnil) ?_
    rintro _ w3 ⟨_, ⟨rfl, rfl⟩, h4⟩
    refine ⟨⟨[], h4⟩, ?_⟩
    refine HJ.run ttok rfl [6, 7] rfl ?_
    rcases Bool.eq_false_or_eq_true r2 with c2 | c2
    · replace H := ite_t c2 H
      refine HJ.know (t := 10) rfl (congrArg Value.bool c2) ?_
      refine HJ.run ttok rfl [8] rfl ?_
      refine HJ.q (i := 9) rfl rfl rfl rfl rfl rfl (q_load_box ttok 0 (fun w e => e) rfl rfl rfl rfl rfl) ?_
      obtain ⟨r3, q3, H⟩ := bind_t H
      refine HJ.op (i := 10) rfl rfl rfl rfl rfl (op_call [] (sluicegateref09_in.spec q3) rfl rfl rfl h4 rfl gnil) ?_
      rintro _ w4 ⟨_, ⟨rfl, rfl⟩, h5⟩
      refine ⟨⟨[], h5⟩, ?_⟩
      refine HJ.run ttok rfl [11, 12] rfl ?_
      rcases Bool.eq_false_or_eq_true r3 with c3 | c3
      · replace H := ite_t c3 H
        refine HJ.know (t := 15) rfl (congrArg Value.bool c3) ?_
        refine HJ.run ttok rfl [13] rfl ?_
        refine HJ.q (i := 14) rfl rfl rfl rfl rfl rfl (q_load_box ttok 0 (fun w e => e) rfl rfl rfl rfl rfl) ?_
        obtain ⟨r4, q4, H⟩ := bind_t H
        refine HJ.op (i := 15) rfl rfl rfl rfl rfl (op_call [] (sluicegateref09_in.spec q4) rfl rfl rfl h5 rfl gnil) ?_
        rintro _ w5 ⟨_, ⟨rfl, rfl⟩, h6⟩
        refine ⟨⟨[], h6⟩, ?_⟩
        refine HJ.run ttok rfl [16, 17] rfl ?_
        rcases Bool.eq_false_or_eq_true r4 with c4 | c4
        · replace H := ite_t c4 H
          refine HJ.know (t := 20) rfl (congrArg Value.bool c4) ?_
          refine HJ.run ttok rfl [18] rfl ?_
          refine HJ.q (i := 19) rfl rfl rfl rfl rfl rfl (q_load_box ttok 0 (fun w e => e) rfl rfl rfl rfl rfl) ?_
          refine HJ.q (i := 20) rfl rfl rfl rfl rfl rfl (q_load_box ttok 0 (fun w e => e) rfl rfl rfl rfl rfl) ?_
          obtain ⟨r5, q5, H⟩ := bind_t H
          refine HJ.op (i := 21) rfl rfl rfl rfl rfl (op_call [] (sluicegateref09_Inner.spec q5) rfl rfl rfl h6 rfl gnil) ?_
          rintro _ w6 ⟨_, ⟨rfl, rfl⟩, h7⟩
          refine ⟨⟨[], h7⟩, ?_⟩
          refine HJ.run ttok rfl [22, 23, 24] rfl ?_
          rcases Bool.eq_false_or_eq_true (decide (r5 ≤ a0.2.1)) with c5 | c5
          · replace H := ite_t c5 H
            refine HJ.know (t := 27) rfl (congrArg Value.bool c5) ?_
            refine HJ.run ttok rfl [25] rfl ?_
            refine HJ.q (i := 26) rfl rfl rfl rfl rfl rfl (q_load_box ttok 0 (fun w e => e) rfl rfl rfl rfl rfl) ?_
            refine HJ.q (i := 27) rfl rfl rfl rfl rfl rfl (q_load_box ttok 0 (fun w e => e) rfl rfl rfl rfl rfl) ?_
            obtain ⟨r6, q6, H⟩ := bind_t H
            refine HJ.op (i := 28) rfl rfl rfl rfl rfl (op_call [] (sluicegateref09_Outer.spec q6) rfl rfl rfl h7 rfl gnil) ?_
            rintro _ w7 ⟨_, ⟨rfl, rfl⟩, h8⟩
            refine ⟨⟨[], h8⟩, ?_⟩
            refine HJ.run ttok rfl [29, 30, 31] rfl ?_
            refine HJ.fin [(2, .bool (decide (r6 ≤ a0.2.1)))] rfl rfl ?_
            refine J.ret ?_
            obtain rfl := Option.some.inj H
            exact ⟨_, _, _, (results_slots rfl), ⟨rfl, rfl⟩, h8.only [] rfl⟩
          · replace H := ite_f c5 H
            refine HJ.know (t := 27) rfl (congrArg Value.bool c5) ?_
            refine HJ.run ttok rfl [25, 26, 27, 28, 29, 30, 31] rfl ?_
            refine HJ.fin [(2, .bool false)] rfl rfl ?_
            refine J.ret ?_
            obtain rfl := Option.some.inj H
            exact ⟨_, _, _, (results_slots rfl), ⟨rfl, rfl⟩, h7.only [] rfl⟩
        · replace H := ite_f c4 H
          refine HJ.know (t := 20) rfl (congrArg Value.bool c4) ?_
          refine HJ.run ttok rfl [18, 19, 20, 21, 22, 23, 24, 25, 26, 27, 28, 29, 30, 31] rfl ?_
          refine HJ.fin [(2, .bool false)] rfl rfl ?_
          refine J.ret ?_
          obtain rfl := Option.some.inj H
          exact ⟨_, _, _, (results_slots rfl), ⟨rfl, rfl⟩, h6.only [] rfl⟩
      · replace H := ite_f c3 H
        refine HJ.know (t := 15) rfl (congrArg Value.bool c3) ?_
        refine HJ.run ttok rfl [13, 14, 15, 16, 17, 18, 19, 20, 21, 22, 23, 24, 25, 26, 27, 28, 29, 30, 31] rfl ?_
        refine HJ.fin [(2, .bool false)] rfl rfl ?_
        refine J.ret ?_
        obtain rfl := Option.some.inj H
        exact ⟨_, _, _, (results_slots rfl), ⟨rfl, rfl⟩, h5.only [] rfl⟩
    · replace H := ite_f c2 H
      refine HJ.know (t := 10) rfl (congrArg Value.bool c2) ?_
      refine HJ.run ttok rfl [8, 9, 10, 11, 12, 13, 14, 15, 16, 17, 18, 19, 20, 21, 22, 23, 24, 25, 26, 27, 28, 29, 30, 31] rfl ?_
      refine HJ.fin [(2, .bool false)] rfl rfl ?_
      refine J.ret ?_
      obtain rfl := Option.some.inj H
      exact ⟨_, _, _, (results_slots rfl), ⟨rfl, rfl⟩, h4.only [] rfl⟩
  · replace H := ite_f c1 H
    refine HJ.know (t := 5) rfl (congrArg Value.bool c1) ?_
    refine HJ.run ttok rfl [3, 4, 5, 6, 7, 8, 9, 10, 11, 12, 13, 14, 15, 16, 17, 18, 19, 20, 21, 22, 23, 24, 25, 26, 27, 28, 29, 30, 31] rfl ?_
    refine HJ.fin [(2, .bool false)] rfl rfl ?_
    refine J.ret ?_
    obtain rfl := Option.some.inj H
    exact ⟨_, _, _, (results_slots rfl), ⟨rfl, rfl⟩, h3.only [] rfl⟩

/-! sluicegate/sluicegateref13.Key -/
def sluicegateref13_Key.f (a0 : Int × Int × Int × Int × Int × Int × Int × Int) (a1 : List UInt8) : Option (Bool) := if (decide (1 ≤ (a1.length : Int))) = true then (some (decide ((a1.length : Int) ≤ a0.2.2.2.2.2.2.1))) else (some false)
set_option maxRecDepth 20000 in
set_option maxHeartbeats 4000000 in
theorem sluicegateref13_Key.spec {a0 : Int × Int × Int × Int × Int × Int × Int × Int} {a1 : List UInt8}  {r : Bool} (H : sluicegateref13_Key.f a0 a1 = some r) :
    Spec Try.prog 26 [.agg #[.int .i64 a0.1, .int .i64 a0.2.1, .int .i64 a0.2.2.1, .int .i64 a0.2.2.2.1, .int .i64 a0.2.2.2.2.1, .int .i64 a0.2.2.2.2.2.1, .int .i64 a0.2.2.2.2.2.2.1, .int .i64 a0.2.2.2.2.2.2.2], .string ⟨⟨a1⟩⟩] [] [] (fun v l => v = .bool r ∧ l = []) := by
  refine Spec.enter Try.func26 rfl (by kernel_rfl) (by kernel_rfl) fun w0 F0 h0 => ?_
  unfold sluicegateref13_Key.f at H
  refine J.seq ?_
  refine J.region ?_
  refine RJ.op rfl rfl (op_box rfl rfl h0) ?_
  rintro _ w1 ⟨b1, rfl, h1⟩
  refine RJ.run ttok 1 rfl ?_
  refine RJ.fin [(1, .string ⟨⟨a1⟩⟩), (2, .pointer (some ⟨b1, 0, none⟩))] rfl ?_
  refine J.seq ?_
  refine J.region ?_
  refine RJ.run ttok 4 rfl ?_
  rcases Bool.eq_false_or_eq_true (decide (1 ≤ (a1.length : Int))) with c1 | c1
  · replace H := ite_t c1 H
    refine RJ.know (t := 8) rfl (congrArg Value.bool c1) ?_
    refine RJ.run ttok 3 rfl ?_
    refine RJ.q rfl rfl (q_load_box ttok 0 (fun w e => e ▸ h1.wh) rfl rfl rfl rfl rfl) ?_
    refine RJ.run ttok 3 rfl ?_
    refine RJ.fin [(4, .bool (decide ((a1.length : Int) ≤ a0.2.2.2.2.2.2.1)))] rfl ?_
    refine J.ret ?_
    obtain rfl := Option.some.inj H
    exact ⟨_, _, _, (results_slots rfl), ⟨rfl, rfl⟩, h1.only [] rfl⟩
  · replace H := ite_f c1 H
    refine RJ.know (t := 8) rfl (congrArg Value.bool c1) ?_
    refine RJ.run ttok 7 rfl ?_
    refine RJ.fin [(4, .bool false)] rfl ?_
    refine J.ret ?_
    obtain rfl := Option.some.inj H
    exact ⟨_, _, _, (results_slots rfl), ⟨rfl, rfl⟩, h1.only [] rfl⟩

/-! sluicegate/sluicegateref01.Compare -/
def sluicegateref01_Compare.l0 : Nat → (List UInt8) → (List UInt8) → (Int) → Option (Int)
  | 0, _, _, _ => none
  | k + 1, a0, a1, x1 => if (decide (x1 < (a0.length : Int))) = true then (if (decide (x1 < (a1.length : Int))) = true then (if 0 ≤ x1 ∧ x1 < (a0.length : Int) then (if 0 ≤ x1 ∧ x1 < (a1.length : Int) then (if (decide ((gtb a0 x1) < (gtb a1 x1))) = true then (some (-1)) else (if (decide ((gtb a1 x1) < (gtb a0 x1))) = true then (some 1) else (sluicegateref01_Compare.l0 k a0 a1 (w64 (x1 + 1))))) else none) else none) else (if (decide ((a0.length : Int) < (a1.length : Int))) = true then (some (-1)) else (if (decide ((a1.length : Int) < (a0.length : Int))) = true then (some 1) else (some 0)))) else (if (decide ((a0.length : Int) < (a1.length : Int))) = true then (some (-1)) else (if (decide ((a1.length : Int) < (a0.length : Int))) = true then (some 1) else (some 0)))
def sluicegateref01_Compare.f (k : Nat) (a0 : List UInt8) (a1 : List UInt8) : Option (Int) := sluicegateref01_Compare.l0 k a0 a1 0
set_option maxRecDepth 20000 in
set_option maxHeartbeats 4000000 in
theorem sluicegateref01_Compare.spec {k : Nat} {a0 : List UInt8} {a1 : List UInt8}  {r : Int} (H : sluicegateref01_Compare.f k a0 a1 = some r) :
    Spec Try.prog 52 [.string ⟨⟨a0⟩⟩, .string ⟨⟨a1⟩⟩] [] [] (fun v l => v = .int .i64 r ∧ l = []) := by
  refine Spec.enter Try.func52 rfl (by kernel_rfl) (by kernel_rfl) fun w0 F0 h0 => ?_
  unfold sluicegateref01_Compare.f at H
  refine J.seq ?_
  refine J.region ?_
  refine RJ.run ttok 1 rfl ?_
  refine RJ.fin [(0, .string ⟨⟨a0⟩⟩), (1, .string ⟨⟨a1⟩⟩)] rfl ?_
  refine J.seq ?_
  refine J.seq ?_
  refine J.region ?_
  refine RJ.run ttok 1 rfl ?_
  refine RJ.fin [(0, .string ⟨⟨a0⟩⟩), (1, .string ⟨⟨a1⟩⟩), (5, .int .i64 0)] rfl ?_
  refine J.block ?_
  have h5 := ((h0.only [] rfl).rds [] rfl)
  refine J.loop (fun k env w => ∃ (x1 : Int), env = [(0, .string ⟨⟨a0⟩⟩), (1, .string ⟨⟨a1⟩⟩), (5, .int .i64 x1)] ∧ St w0 F0 [] [] w ∧ sluicegateref01_Compare.l0 k a0 a1 x1 = some r) (k := k) ⟨0, rfl, h5, H⟩ ?_
  rintro k1 env w1 ⟨x1, rfl, h1, H⟩
  cases k1 with
  | zero => exact nomatch (show none = some r from H)
  | succ k1 =>
    rw [sluicegateref01_Compare.l0] at H
    refine J.seq ?_
    refine J.seq ?_
    refine J.region ?_
    refine RJ.run ttok 5 rfl ?_
    rcases Bool.eq_false_or_eq_true (decide (x1 < (a0.length : Int))) with c1 | c1
    · replace H := ite_t c1 H
      refine RJ.know (t := 10) rfl (congrArg Value.bool c1) ?_
      refine RJ.run ttok 5 rfl ?_
      refine RJ.fin [(0, .string ⟨⟨a0⟩⟩), (1, .string ⟨⟨a1⟩⟩), (5, .int .i64 x1), (15, .bool (decide (x1 < (a1.length : Int))))] rfl ?_
      refine J.cond rfl (fun c2 => ?_) (fun c2 => ?_)
      · replace H := ite_t c2 H
        refine J.skip ?_
        refine J.seq ?_
        refine J.block ?_
        refine J.seq ?_
        refine J.seq ?_
        refine J.heldSt mix h1 ?_
        have h2 := h1.drew
        refine HJ.run ttok rfl [0, 1, 3, 4] rfl ?_
        obtain ⟨⟨p1, p2⟩, H⟩ := guard_t H
        refine HJ.q (i := 2) rfl rfl rfl rfl rfl rfl (q_byte ttok rfl rfl rfl rfl p1 p2) ?_
        obtain ⟨⟨p3, p4⟩, H⟩ := guard_t H
        refine HJ.q (i := 5) rfl rfl rfl rfl rfl rfl (q_byte ttok rfl rfl rfl rfl p3 p4) ?_
        refine HJ.run ttok rfl [6] rfl ?_
        refine HJ.fin [(0, .string ⟨⟨a0⟩⟩), (1, .string ⟨⟨a1⟩⟩), (5, .int .i64 x1), (24, .bool (decide ((gtb a0 x1) < (gtb a1 x1))))] rfl rfl ?_
        refine J.cond rfl (fun c3 => ?_) (fun c3 => ?_)
        · replace H := ite_t c3 H
          refine J.seq ?_
          refine J.region ?_
          refine RJ.run ttok 1 rfl ?_
          refine RJ.fin [(4, .int .i64 (-1))] rfl ?_
          refine J.ret ?_
          obtain rfl := Option.some.inj H
          exact ⟨_, _, _, (results_slots rfl), ⟨rfl, rfl⟩, h2.only [] rfl⟩
        · replace H := ite_f c3 H
          refine J.skip ?_
          refine J.seq ?_
          refine J.heldSt mix h2 ?_
          have h3 := h2.drew
          refine HJ.run ttok rfl [0, 1, 3, 4] rfl ?_
          refine HJ.q (i := 2) rfl rfl rfl rfl rfl rfl (q_byte ttok rfl rfl rfl rfl p1 p2) ?_
          refine HJ.q (i := 5) rfl rfl rfl rfl rfl rfl (q_byte ttok rfl rfl rfl rfl p3 p4) ?_
          refine HJ.run ttok rfl [6] rfl ?_
          refine HJ.fin [(0, .string ⟨⟨a0⟩⟩), (1, .string ⟨⟨a1⟩⟩), (5, .int .i64 x1), (31, .bool (decide ((gtb a1 x1) < (gtb a0 x1))))] rfl rfl ?_
          refine J.cond rfl (fun c4 => ?_) (fun c4 => ?_)
          · replace H := ite_t c4 H
            refine J.seq ?_
            refine J.region ?_
            refine RJ.run ttok 1 rfl ?_
            refine RJ.fin [(4, .int .i64 1)] rfl ?_
            refine J.ret ?_
            obtain rfl := Option.some.inj H
            exact ⟨_, _, _, (results_slots rfl), ⟨rfl, rfl⟩, h3.only [] rfl⟩
          · replace H := ite_f c4 H
            refine J.skip ?_
            refine J.region ?_
            refine RJ.run ttok 3 rfl ?_
            refine RJ.fin [(0, .string ⟨⟨a0⟩⟩), (1, .string ⟨⟨a1⟩⟩), (5, .int .i64 (w64 (x1 + 1)))] rfl ?_
            have h4 := ((h3.only [] rfl).rds [] rfl)
            exact ⟨k1, by omega, (w64 (x1 + 1)), rfl, h4, H⟩
      · replace H := ite_f c2 H
        refine J.exit ?_
        refine J.seq ?_
        refine J.seq ?_
        refine J.region ?_
        refine RJ.run ttok 5 rfl ?_
        refine RJ.fin [(0, .string ⟨⟨a0⟩⟩), (1, .string ⟨⟨a1⟩⟩), (36, .bool (decide ((a0.length : Int) < (a1.length : Int))))] rfl ?_
        refine J.cond rfl (fun c5 => ?_) (fun c5 => ?_)
        · replace H := ite_t c5 H
          refine J.seq ?_
          refine J.region ?_
          refine RJ.run ttok 1 rfl ?_
          refine RJ.fin [(4, .int .i64 (-1))] rfl ?_
          refine J.ret ?_
          obtain rfl := Option.some.inj H
          exact ⟨_, _, _, (results_slots rfl), ⟨rfl, rfl⟩, h1.only [] rfl⟩
        · replace H := ite_f c5 H
          refine J.skip ?_
          refine J.seq ?_
          refine J.seq ?_
          refine J.region ?_
          refine RJ.run ttok 5 rfl ?_
          refine RJ.fin [(41, .bool (decide ((a1.length : Int) < (a0.length : Int))))] rfl ?_
          refine J.cond rfl (fun c6 => ?_) (fun c6 => ?_)
          · replace H := ite_t c6 H
            refine J.seq ?_
            refine J.region ?_
            refine RJ.run ttok 1 rfl ?_
            refine RJ.fin [(4, .int .i64 1)] rfl ?_
            refine J.ret ?_
            obtain rfl := Option.some.inj H
            exact ⟨_, _, _, (results_slots rfl), ⟨rfl, rfl⟩, h1.only [] rfl⟩
          · replace H := ite_f c6 H
            refine J.skip ?_
            refine J.seq ?_
            refine J.region ?_
            refine RJ.run ttok 1 rfl ?_
            refine RJ.fin [(4, .int .i64 0)] rfl ?_
            refine J.ret ?_
            obtain rfl := Option.some.inj H
            exact ⟨_, _, _, (results_slots rfl), ⟨rfl, rfl⟩, h1.only [] rfl⟩
    · replace H := ite_f c1 H
      refine RJ.know (t := 10) rfl (congrArg Value.bool c1) ?_
      refine RJ.run ttok 5 rfl ?_
      refine RJ.fin [(0, .string ⟨⟨a0⟩⟩), (1, .string ⟨⟨a1⟩⟩), (5, .int .i64 x1), (15, .bool false)] rfl ?_
      refine J.condF rfl ?_
      refine J.exit ?_
      refine J.seq ?_
      refine J.seq ?_
      refine J.region ?_
      refine RJ.run ttok 5 rfl ?_
      refine RJ.fin [(0, .string ⟨⟨a0⟩⟩), (1, .string ⟨⟨a1⟩⟩), (36, .bool (decide ((a0.length : Int) < (a1.length : Int))))] rfl ?_
      refine J.cond rfl (fun c7 => ?_) (fun c7 => ?_)
      · replace H := ite_t c7 H
        refine J.seq ?_
        refine J.region ?_
        refine RJ.run ttok 1 rfl ?_
        refine RJ.fin [(4, .int .i64 (-1))] rfl ?_
        refine J.ret ?_
        obtain rfl := Option.some.inj H
        exact ⟨_, _, _, (results_slots rfl), ⟨rfl, rfl⟩, h1.only [] rfl⟩
      · replace H := ite_f c7 H
        refine J.skip ?_
        refine J.seq ?_
        refine J.seq ?_
        refine J.region ?_
        refine RJ.run ttok 5 rfl ?_
        refine RJ.fin [(41, .bool (decide ((a1.length : Int) < (a0.length : Int))))] rfl ?_
        refine J.cond rfl (fun c8 => ?_) (fun c8 => ?_)
        · replace H := ite_t c8 H
          refine J.seq ?_
          refine J.region ?_
          refine RJ.run ttok 1 rfl ?_
          refine RJ.fin [(4, .int .i64 1)] rfl ?_
          refine J.ret ?_
          obtain rfl := Option.some.inj H
          exact ⟨_, _, _, (results_slots rfl), ⟨rfl, rfl⟩, h1.only [] rfl⟩
        · replace H := ite_f c8 H
          refine J.skip ?_
          refine J.seq ?_
          refine J.region ?_
          refine RJ.run ttok 1 rfl ?_
          refine RJ.fin [(4, .int .i64 0)] rfl ?_
          refine J.ret ?_
          obtain rfl := Option.some.inj H
          exact ⟨_, _, _, (results_slots rfl), ⟨rfl, rfl⟩, h1.only [] rfl⟩

/-! sluicegate/sluicegateref01.In -/
def sluicegateref01_In.f (k : Nat) (a0 : List UInt8 × List UInt8 × Bool) (a1 : List UInt8) : Option (Bool) := (sluicegateref01_Compare.f k a0.1 a1).bind fun r1 => (if (decide (r1 ≤ 0)) = true then (if a0.2.2 = true then (some true) else ((sluicegateref01_Compare.f k a1 a0.2.1).bind fun r2 => (some (decide (r2 < 0))))) else (some false))
set_option maxRecDepth 20000 in
set_option maxHeartbeats 4000000 in
theorem sluicegateref01_In.spec {k : Nat} {a0 : List UInt8 × List UInt8 × Bool} {a1 : List UInt8}  {r : Bool} (H : sluicegateref01_In.f k a0 a1 = some r) :
    Spec Try.prog 25 [.agg #[.string ⟨⟨a0.1⟩⟩, .string ⟨⟨a0.2.1⟩⟩, .bool a0.2.2], .string ⟨⟨a1⟩⟩] [] [] (fun v l => v = .bool r ∧ l = []) := by
  refine Spec.enter Try.func25 rfl (by kernel_rfl) (by kernel_rfl) fun w0 F0 h0 => ?_
  unfold sluicegateref01_In.f at H
  refine J.seq ?_
  refine J.region ?_
  refine RJ.op rfl rfl (op_box rfl rfl h0) ?_
  rintro _ w1 ⟨b1, rfl, h1⟩
  refine RJ.run ttok 1 rfl ?_
  refine RJ.fin [(1, .string ⟨⟨a1⟩⟩), (2, .pointer (some ⟨b1, 0, none⟩))] rfl ?_
  refine J.seq ?_
  refine J.region ?_
  refine RJ.run ttok 1 rfl ?_
  refine RJ.q rfl rfl (q_load_box ttok 0 (fun w e => e ▸ h1.wh) rfl rfl rfl rfl rfl) ?_
  refine RJ.run ttok 1 rfl ?_
  obtain ⟨r1, q1, H⟩ := bind_t H
  refine RJ.op rfl rfl (op_call [] (sluicegateref01_Compare.spec q1) rfl rfl rfl h1 rfl gnil) ?_
  rintro _ w2 ⟨_, ⟨rfl, rfl⟩, h2⟩
  refine RJ.run ttok 2 rfl ?_
  rcases Bool.eq_false_or_eq_true (decide (r1 ≤ 0)) with c1 | c1
  · replace H := ite_t c1 H
    refine RJ.know (t := 10) rfl (congrArg Value.bool c1) ?_
    refine RJ.run ttok 1 rfl ?_
    refine RJ.q rfl rfl (q_load_box ttok 0 (fun w e => e ▸ h2.wh) rfl rfl rfl rfl rfl) ?_
    refine RJ.run ttok 1 rfl ?_
    rcases Bool.eq_false_or_eq_true a0.2.2 with c2 | c2
    · replace H := ite_t c2 H
      refine RJ.know (t := 13) rfl (congrArg Value.bool c2) ?_
      refine RJ.run ttok 8 rfl ?_
      refine RJ.fin [(4, .bool true)] rfl ?_
      refine J.ret ?_
      obtain rfl := Option.some.inj H
      exact ⟨_, _, _, (results_slots rfl), ⟨rfl, rfl⟩, h2.only [] rfl⟩
    · replace H := ite_f c2 H
      refine RJ.know (t := 13) rfl (congrArg Value.bool c2) ?_
      refine RJ.run ttok 2 rfl ?_
      refine RJ.q rfl rfl (q_load_box ttok 0 (fun w e => e ▸ h2.wh) rfl rfl rfl rfl rfl) ?_
      obtain ⟨r2, q2, H⟩ := bind_t H
      refine RJ.op rfl rfl (op_call [] (sluicegateref01_Compare.spec q2) rfl rfl rfl h2 rfl gnil) ?_
      rintro _ w3 ⟨_, ⟨rfl, rfl⟩, h3⟩
      refine RJ.run ttok 4 rfl ?_
      refine RJ.fin [(4, .bool (decide (r2 < 0)))] rfl ?_
      refine J.ret ?_
      obtain rfl := Option.some.inj H
      exact ⟨_, _, _, (results_slots rfl), ⟨rfl, rfl⟩, h3.only [] rfl⟩
  · replace H := ite_f c1 H
    refine RJ.know (t := 10) rfl (congrArg Value.bool c1) ?_
    refine RJ.run ttok 11 rfl ?_
    refine RJ.fin [(4, .bool false)] rfl ?_
    refine J.ret ?_
    obtain rfl := Option.some.inj H
    exact ⟨_, _, _, (results_slots rfl), ⟨rfl, rfl⟩, h2.only [] rfl⟩

/-! sluicegate/sluicegateref11.Right -/
def sluicegateref11_Right.l0 : Nat → (List (List UInt8 × List UInt8)) → (Int) → Option (Bool)
  | 0, _, _ => none
  | k + 1, a0, x1 => if (decide (x1 < (a0.length : Int))) = true then (if 0 ≤ (w64 (x1 - 1)) ∧ (w64 (x1 - 1)) < (a0.length : Int) then (if 0 ≤ x1 ∧ x1 < (a0.length : Int) then ((sluicegateref01_Compare.f k ((gt a0 (w64 (x1 - 1))).1) ((gt a0 x1).1)).bind fun r1 => (if (decide (0 ≤ r1)) = true then (some false) else (sluicegateref11_Right.l0 k a0 (w64 (x1 + 1))))) else none) else none) else (some true)
def sluicegateref11_Right.f (k : Nat) (a0 : List (List UInt8 × List UInt8)) : Option (Bool) := sluicegateref11_Right.l0 k a0 1
set_option maxRecDepth 20000 in
set_option maxHeartbeats 4000000 in
theorem sluicegateref11_Right.spec {k : Nat} {a0 : List (List UInt8 × List UInt8)} {A1 : Option Addr} {c_1 : Nat} {r : Bool} (H : sluicegateref11_Right.f k a0 = some r) :
    Spec Try.prog 41 [.slice A1 a0.length c_1] [] [rdC 50 (.pair .str .str) a0 (.slice A1 a0.length c_1)] (fun v l => v = .bool r ∧ l = []) := by
  refine Spec.enter Try.func41 rfl (by kernel_rfl) (by kernel_rfl) fun w0 F0 h0 => ?_
  unfold sluicegateref11_Right.f at H
  refine J.seq ?_
  refine J.region ?_
  refine RJ.run ttok 1 rfl ?_
  refine RJ.fin [(0, .slice A1 a0.length c_1)] rfl ?_
  refine J.seq ?_
  refine J.seq ?_
  refine J.region ?_
  refine RJ.run ttok 1 rfl ?_
  refine RJ.fin [(0, .slice A1 a0.length c_1), (3, .int .i64 1)] rfl ?_
  refine J.block ?_
  have h5 := ((h0.only [] rfl).rds [0] rfl)
  refine J.loop (fun k env w => ∃ (x1 : Int), env = [(0, .slice A1 a0.length c_1), (3, .int .i64 x1)] ∧ St w0 F0 [] [rdC 50 (.pair .str .str) a0 (.slice A1 a0.length c_1)] w ∧ sluicegateref11_Right.l0 k a0 x1 = some r) (k := k) ⟨1, rfl, h5, H⟩ ?_
  rintro k1 env w1 ⟨x1, rfl, h1, H⟩
  cases k1 with
  | zero => exact nomatch (show none = some r from H)
  | succ k1 =>
    rw [sluicegateref11_Right.l0] at H
    refine J.seq ?_
    refine J.seq ?_
    refine J.region ?_
    refine RJ.run ttok 4 rfl ?_
    refine RJ.fin [(0, .slice A1 a0.length c_1), (3, .int .i64 x1), (7, .bool (decide (x1 < (a0.length : Int))))] rfl ?_
    refine J.cond rfl (fun c1 => ?_) (fun c1 => ?_)
    · replace H := ite_t c1 H
      refine J.skip ?_
      refine J.seq ?_
      refine J.block ?_
      refine J.seq ?_
      refine J.heldSt mix h1 ?_
      have h2 := h1.drew
      refine HJ.run ttok rfl [0, 1, 2, 6, 7] rfl ?_
      obtain ⟨⟨p1, p2⟩, H⟩ := guard_t H
      have e1 := elem_A h2.wh (Gives.self 0 rfl) p1 p2
      refine HJ.q (i := 3) rfl rfl rfl rfl rfl rfl (q_index ttok rfl rfl rfl rfl rfl e1 p1 p2) ?_
      refine HJ.run ttok rfl [4] rfl ?_
      refine HJ.q (i := 5) rfl rfl rfl rfl rfl rfl (q_load_elem (f := 0) ttok rfl (fun w e => e) (Gives.self 0 rfl) p1 p2 rfl rfl rfl rfl rfl) ?_
      obtain ⟨⟨p3, p4⟩, H⟩ := guard_t H
      refine HJ.q (i := 8) rfl rfl rfl rfl rfl rfl (q_index ttok rfl rfl rfl rfl rfl e1 p3 p4) ?_
      refine HJ.run ttok rfl [9] rfl ?_
      refine HJ.q (i := 10) rfl rfl rfl rfl rfl rfl (q_load_elem (f := 0) ttok rfl (fun w e => e) (Gives.self 0 rfl) p3 p4 rfl rfl rfl rfl rfl) ?_
      obtain ⟨r1, q1, H⟩ := bind_t H
      refine HJ.op (i := 11) rfl rfl rfl rfl rfl (op_call [] (sluicegateref01_Compare.spec q1) rfl rfl rfl h2 rfl gnil) ?_
      rintro _ w2 ⟨_, ⟨rfl, rfl⟩, h3⟩
      refine ⟨⟨[], h3⟩, ?_⟩
      refine HJ.run ttok rfl [12] rfl ?_
      refine HJ.fin [(0, .slice A1 a0.length c_1), (3, .int .i64 x1), (22, .bool (decide (0 ≤ r1)))] rfl rfl ?_
      refine J.cond rfl (fun c2 => ?_) (fun c2 => ?_)
      · replace H := ite_t c2 H
        refine J.seq ?_
        refine J.region ?_
        refine RJ.run ttok 1 rfl ?_
        refine RJ.fin [(2, .bool false)] rfl ?_
        refine J.ret ?_
        obtain rfl := Option.some.inj H
        exact ⟨_, _, _, (results_slots rfl), ⟨rfl, rfl⟩, h3.only [] rfl⟩
      · replace H := ite_f c2 H
        refine J.skip ?_
        refine J.region ?_
        refine RJ.run ttok 3 rfl ?_
        refine RJ.fin [(0, .slice A1 a0.length c_1), (3, .int .i64 (w64 (x1 + 1)))] rfl ?_
        have h4 := ((h3.only [] rfl).rds [0] rfl)
        exact ⟨k1, by omega, (w64 (x1 + 1)), rfl, h4, H⟩
    · replace H := ite_f c1 H
      refine J.exit ?_
      refine J.seq ?_
      refine J.region ?_
      refine RJ.run ttok 1 rfl ?_
      refine RJ.fin [(2, .bool true)] rfl ?_
      refine J.ret ?_
      obtain rfl := Option.some.inj H
      exact ⟨_, _, _, (results_slots rfl), ⟨rfl, rfl⟩, h1.only [] rfl⟩

/-! sluicegate/sluicegateref13.outer -/
def sluicegateref13_outer.l0 : Nat → (Int × Int × Int × Int × Int × Int × Int × Int) → (List UInt8 × List UInt8 × Bool) → (Int × List (Int) × List (List UInt8) × (List (List UInt8 × Bool × List UInt8)) × (List (List UInt8 × List UInt8))) → (Int) → Option (Bool)
  | 0, _, _, _, _ => none
  | k + 1, a0, a1, a2, x1 => if (decide (x1 < (a2.2.2.2.2.length : Int))) = true then (if 0 ≤ x1 ∧ x1 < (a2.2.2.2.2.length : Int) then ((sluicegateref13_Key.f (a0.1, a0.2.1, a0.2.2.1, a0.2.2.2.1, a0.2.2.2.2.1, a0.2.2.2.2.2.1, a0.2.2.2.2.2.2.1, a0.2.2.2.2.2.2.2) ((gt a2.2.2.2.2 x1).1)).bind fun r1 => (if (!r1) = true then (some false) else ((sluicegateref01_In.f k (a1.1, a1.2.1, a1.2.2) ((gt a2.2.2.2.2 x1).1)).bind fun r2 => (if (!r2) = true then (some false) else (if (decide (a0.2.2.2.2.2.2.2 < (((gt a2.2.2.2.2 x1).2).length : Int))) = true then (some false) else (sluicegateref13_outer.l0 k a0 a1 a2 (w64 (x1 + 1)))))))) else none) else (if (decide ((a2.2.1.length : Int) = 0)) = true then (if (decide ((a2.2.2.1.length : Int) = 0)) = true then (if (decide ((a2.2.2.2.1.length : Int) = 0)) = true then (if (decide ((a2.2.2.2.2.length : Int) ≤ a0.2.2.2.2.2.1)) = true then ((sluicegateref11_Right.f k a2.2.2.2.2).bind fun r3 => (some r3)) else (some false)) else (some false)) else (some false)) else (some false))
def sluicegateref13_outer.f (k : Nat) (a0 : Int × Int × Int × Int × Int × Int × Int × Int) (a1 : List UInt8 × List UInt8 × Bool) (a2 : Int × List (Int) × List (List UInt8) × (List (List UInt8 × Bool × List UInt8)) × (List (List UInt8 × List UInt8))) : Option (Bool) := sluicegateref13_outer.l0 k a0 a1 a2 0
set_option maxRecDepth 20000 in
set_option maxHeartbeats 4000000 in
theorem sluicegateref13_outer.spec {k : Nat} {a0 : Int × Int × Int × Int × Int × Int × Int × Int} {a1 : List UInt8 × List UInt8 × Bool} {a2 : Int × List (Int) × List (List UInt8) × (List (List UInt8 × Bool × List UInt8)) × (List (List UInt8 × List UInt8))} {A1 : Option Addr} {c_1 : Nat} {A2 : Option Addr} {c_2 : Nat} {A3 : Option Addr} {c_3 : Nat} {A4 : Option Addr} {c_4 : Nat} {r : Bool} (H : sluicegateref13_outer.f k a0 a1 a2 = some r) :
    Spec Try.prog 63 [.agg #[.int .i64 a0.1, .int .i64 a0.2.1, .int .i64 a0.2.2.1, .int .i64 a0.2.2.2.1, .int .i64 a0.2.2.2.2.1, .int .i64 a0.2.2.2.2.2.1, .int .i64 a0.2.2.2.2.2.2.1, .int .i64 a0.2.2.2.2.2.2.2], .agg #[.string ⟨⟨a1.1⟩⟩, .string ⟨⟨a1.2.1⟩⟩, .bool a1.2.2], .agg #[.int .i64 a2.1, .slice A1 a2.2.1.length c_1, .slice A2 a2.2.2.1.length c_2, .slice A3 a2.2.2.2.1.length c_3, .slice A4 a2.2.2.2.2.length c_4]] [] [rdC 46 (.int .u32) a2.2.1 (.slice A1 a2.2.1.length c_1), rdC 9 .str a2.2.2.1 (.slice A2 a2.2.2.1.length c_2), rdC 48 (.pair .str (.pair .bool .str)) a2.2.2.2.1 (.slice A3 a2.2.2.2.1.length c_3), rdC 50 (.pair .str .str) a2.2.2.2.2 (.slice A4 a2.2.2.2.2.length c_4)] (fun v l => v = .bool r ∧ l = []) := by
  refine Spec.enter Try.func63 rfl (by kernel_rfl) (by kernel_rfl) fun w0 F0 h0 => ?_
  unfold sluicegateref13_outer.f at H
  refine J.seq ?_
  refine J.region ?_
  refine RJ.op rfl rfl (op_box rfl rfl h0) ?_
  rintro _ w1 ⟨b1, rfl, h1⟩
  refine RJ.op rfl rfl (op_box rfl rfl h1) ?_
  rintro _ w2 ⟨b2, rfl, h2⟩
  refine RJ.op rfl rfl (op_box rfl rfl h2) ?_
  rintro _ w3 ⟨b3, rfl, h3⟩
  refine RJ.run ttok 1 rfl ?_
  refine RJ.fin [(3, .pointer (some ⟨b1, 0, none⟩)), (4, .pointer (some ⟨b2, 0, none⟩)), (5, .pointer (some ⟨b3, 0, none⟩))] rfl ?_
  refine J.seq ?_
  refine J.seq ?_
  refine J.region ?_
  refine RJ.run ttok 1 rfl ?_
  refine RJ.fin [(3, .pointer (some ⟨b1, 0, none⟩)), (4, .pointer (some ⟨b2, 0, none⟩)), (5, .pointer (some ⟨b3, 0, none⟩)), (7, .int .i64 0)] rfl ?_
  refine J.block ?_
  have h11 := ((h3.only [2, 1, 0] rfl).rds [0, 1, 2, 3] rfl)
  refine J.loop (fun k env w => ∃ (x1 : Int), env = [(3, .pointer (some ⟨b1, 0, none⟩)), (4, .pointer (some ⟨b2, 0, none⟩)), (5, .pointer (some ⟨b3, 0, none⟩)), (7, .int .i64 x1)] ∧ St w0 F0 [boxC b1 23 [.int .i64 a0.1, .int .i64 a0.2.1, .int .i64 a0.2.2.1, .int .i64 a0.2.2.2.1, .int .i64 a0.2.2.2.2.1, .int .i64 a0.2.2.2.2.2.1, .int .i64 a0.2.2.2.2.2.2.1, .int .i64 a0.2.2.2.2.2.2.2], boxC b2 25 [.string ⟨⟨a1.1⟩⟩, .string ⟨⟨a1.2.1⟩⟩, .bool a1.2.2], boxC b3 31 [.int .i64 a2.1, .slice A1 a2.2.1.length c_1, .slice A2 a2.2.2.1.length c_2, .slice A3 a2.2.2.2.1.length c_3, .slice A4 a2.2.2.2.2.length c_4]] [rdC 46 (.int .u32) a2.2.1 (.slice A1 a2.2.1.length c_1), rdC 9 .str a2.2.2.1 (.slice A2 a2.2.2.1.length c_2), rdC 48 (.pair .str (.pair .bool .str)) a2.2.2.2.1 (.slice A3 a2.2.2.2.1.length c_3), rdC 50 (.pair .str .str) a2.2.2.2.2 (.slice A4 a2.2.2.2.2.length c_4)] w ∧ sluicegateref13_outer.l0 k a0 a1 a2 x1 = some r) (k := k) ⟨0, rfl, h11, H⟩ ?_
  rintro k1 env w4 ⟨x1, rfl, h4, H⟩
  cases k1 with
  | zero => exact nomatch (show none = some r from H)
  | succ k1 =>
    rw [sluicegateref13_outer.l0] at H
    refine J.seq ?_
    refine J.seq ?_
    refine J.region ?_
    refine RJ.run ttok 2 rfl ?_
    refine RJ.q rfl rfl (q_load_box ttok 2 (fun w e => e ▸ h4.wh) rfl rfl rfl rfl rfl) ?_
    refine RJ.run ttok 2 rfl ?_
    refine RJ.fin [(3, .pointer (some ⟨b1, 0, none⟩)), (4, .pointer (some ⟨b2, 0, none⟩)), (5, .pointer (some ⟨b3, 0, none⟩)), (7, .int .i64 x1), (13, .bool (decide (x1 < (a2.2.2.2.2.length : Int))))] rfl ?_
    refine J.cond rfl (fun c1 => ?_) (fun c1 => ?_)
    · replace H := ite_t c1 H
      refine J.skip ?_
      refine J.seq ?_
      refine J.block ?_
      refine J.seq ?_
      refine J.region ?_
      refine RJ.run ttok 1 rfl ?_
      refine RJ.q rfl rfl (q_load_box ttok 2 (fun w e => e ▸ h4.wh) rfl rfl rfl rfl rfl) ?_
      refine RJ.run ttok 1 rfl ?_
      obtain ⟨⟨p1, p2⟩, H⟩ := guard_t H
      have e1 := elem_A h4.wh (Gives.self 6 rfl) p1 p2
      refine RJ.q rfl rfl (q_index ttok rfl rfl rfl rfl rfl e1 p1 p2) ?_
      refine RJ.q rfl rfl (q_load_elem (f := 0) ttok rfl (fun w e => e ▸ h4.wh) (Gives.self 6 rfl) p1 p2 rfl rfl rfl rfl rfl) ?_
      refine RJ.op rfl rfl (op_alloc ttok rfl rfl h4) ?_
      rintro _ w5 ⟨b4, rfl, h5⟩
      refine RJ.op rfl rfl (op_store ttok 0 rfl h5 rfl rfl rfl rfl rfl rfl rfl) ?_
      intro _ w6 h6
      replace h6 : St w0 F0 (boxC b4 50 [.string ⟨⟨(gt a2.2.2.2.2 x1).1⟩⟩, .string ⟨⟨(gt a2.2.2.2.2 x1).2⟩⟩] :: _) _ w6 := h6
      refine RJ.fin [(3, .pointer (some ⟨b1, 0, none⟩)), (4, .pointer (some ⟨b2, 0, none⟩)), (5, .pointer (some ⟨b3, 0, none⟩)), (7, .int .i64 x1), (8, .pointer (some ⟨b4, 0, none⟩))] rfl ?_
      refine J.seq ?_
      refine J.region ?_
      refine RJ.q rfl rfl (q_load_box ttok 1 (fun w e => e ▸ h6.wh) rfl rfl rfl rfl rfl) ?_
      refine RJ.run ttok 1 rfl ?_
      refine RJ.q rfl rfl (q_load_box ttok 0 (fun w e => e ▸ h6.wh) rfl rfl rfl rfl rfl) ?_
      obtain ⟨r1, q1, H⟩ := bind_t H
      refine RJ.op rfl rfl (op_call [] (sluicegateref13_Key.spec q1) rfl rfl rfl h6 rfl gnil) ?_
      rintro _ w7 ⟨_, ⟨rfl, rfl⟩, h7⟩
      refine RJ.run ttok 2 rfl ?_
      rcases Bool.eq_false_or_eq_true (!r1) with c2 | c2
      · replace H := ite_t c2 H
        refine RJ.know (t := 26) rfl (congrArg Value.bool c2) ?_
        refine RJ.run ttok 14 rfl ?_
        refine RJ.fin [(3, .pointer (some ⟨b1, 0, none⟩)), (4, .pointer (some ⟨b2, 0, none⟩)), (5, .pointer (some ⟨b3, 0, none⟩)), (7, .int .i64 x1), (40, .bool true)] rfl ?_
        refine J.condT rfl ?_
        refine J.seq ?_
        refine J.region ?_
        refine RJ.run ttok 1 rfl ?_
        refine RJ.fin [(6, .bool false)] rfl ?_
        refine J.ret ?_
        obtain rfl := Option.some.inj H
        exact ⟨_, _, _, (results_slots rfl), ⟨rfl, rfl⟩, h7.only [] rfl⟩
      · replace H := ite_f c2 H
        refine RJ.know (t := 26) rfl (congrArg Value.bool c2) ?_
        refine RJ.q rfl rfl (q_load_box ttok 2 (fun w e => e ▸ h7.wh) rfl rfl rfl rfl rfl) ?_
        refine RJ.run ttok 1 rfl ?_
        refine RJ.q rfl rfl (q_load_box ttok 0 (fun w e => e ▸ h7.wh) rfl rfl rfl rfl rfl) ?_
        obtain ⟨r2, q2, H⟩ := bind_t H
        refine RJ.op rfl rfl (op_call [] (sluicegateref01_In.spec q2) rfl rfl rfl h7 rfl gnil) ?_
        rintro _ w8 ⟨_, ⟨rfl, rfl⟩, h8⟩
        refine RJ.run ttok 3 rfl ?_
        rcases Bool.eq_false_or_eq_true (!r2) with c3 | c3
        · replace H := ite_t c3 H
          refine RJ.know (t := 33) rfl (congrArg Value.bool c3) ?_
          refine RJ.run ttok 7 rfl ?_
          refine RJ.fin [(3, .pointer (some ⟨b1, 0, none⟩)), (4, .pointer (some ⟨b2, 0, none⟩)), (5, .pointer (some ⟨b3, 0, none⟩)), (7, .int .i64 x1), (40, .bool true)] rfl ?_
          refine J.condT rfl ?_
          refine J.seq ?_
          refine J.region ?_
          refine RJ.run ttok 1 rfl ?_
          refine RJ.fin [(6, .bool false)] rfl ?_
          refine J.ret ?_
          obtain rfl := Option.some.inj H
          exact ⟨_, _, _, (results_slots rfl), ⟨rfl, rfl⟩, h8.only [] rfl⟩
        · replace H := ite_f c3 H
          refine RJ.know (t := 33) rfl (congrArg Value.bool c3) ?_
          refine RJ.run ttok 1 rfl ?_
          refine RJ.q rfl rfl (q_load_box ttok 0 (fun w e => e ▸ h8.wh) rfl rfl rfl rfl rfl) ?_
          refine RJ.run ttok 2 rfl ?_
          refine RJ.q rfl rfl (q_load_box ttok 1 (fun w e => e ▸ h8.wh) rfl rfl rfl rfl rfl) ?_
          refine RJ.run ttok 2 rfl ?_
          refine RJ.fin [(3, .pointer (some ⟨b1, 0, none⟩)), (4, .pointer (some ⟨b2, 0, none⟩)), (5, .pointer (some ⟨b3, 0, none⟩)), (7, .int .i64 x1), (40, .bool (decide (a0.2.2.2.2.2.2.2 < (((gt a2.2.2.2.2 x1).2).length : Int))))] rfl ?_
          refine J.cond rfl (fun c4 => ?_) (fun c4 => ?_)
          · replace H := ite_t c4 H
            refine J.seq ?_
            refine J.region ?_
            refine RJ.run ttok 1 rfl ?_
            refine RJ.fin [(6, .bool false)] rfl ?_
            refine J.ret ?_
            obtain rfl := Option.some.inj H
            exact ⟨_, _, _, (results_slots rfl), ⟨rfl, rfl⟩, h8.only [] rfl⟩
          · replace H := ite_f c4 H
            refine J.skip ?_
            refine J.region ?_
            refine RJ.run ttok 3 rfl ?_
            refine RJ.fin [(3, .pointer (some ⟨b1, 0, none⟩)), (4, .pointer (some ⟨b2, 0, none⟩)), (5, .pointer (some ⟨b3, 0, none⟩)), (7, .int .i64 (w64 (x1 + 1)))] rfl ?_
            have h9 := ((h8.only [1, 1, 1] rfl).rds [0, 1, 2, 3] rfl)
            exact ⟨k1, by omega, (w64 (x1 + 1)), rfl, h9, H⟩
    · replace H := ite_f c1 H
      refine J.exit ?_
      refine J.seq ?_
      refine J.region ?_
      refine RJ.run ttok 1 rfl ?_
      refine RJ.q rfl rfl (q_load_box ttok 2 (fun w e => e ▸ h4.wh) rfl rfl rfl rfl rfl) ?_
      refine RJ.run ttok 3 rfl ?_
      rcases Bool.eq_false_or_eq_true (decide ((a2.2.1.length : Int) = 0)) with c5 | c5
      · replace H := ite_t c5 H
        refine RJ.know (t := 45) rfl (congrArg Value.bool c5) ?_
        refine RJ.run ttok 1 rfl ?_
        refine RJ.q rfl rfl (q_load_box ttok 2 (fun w e => e ▸ h4.wh) rfl rfl rfl rfl rfl) ?_
        refine RJ.run ttok 4 rfl ?_
        rcases Bool.eq_false_or_eq_true (decide ((a2.2.2.1.length : Int) = 0)) with c6 | c6
        · replace H := ite_t c6 H
          refine RJ.know (t := 51) rfl (congrArg Value.bool c6) ?_
          refine RJ.run ttok 1 rfl ?_
          refine RJ.q rfl rfl (q_load_box ttok 2 (fun w e => e ▸ h4.wh) rfl rfl rfl rfl rfl) ?_
          refine RJ.run ttok 4 rfl ?_
          rcases Bool.eq_false_or_eq_true (decide ((a2.2.2.2.1.length : Int) = 0)) with c7 | c7
          · replace H := ite_t c7 H
            refine RJ.know (t := 57) rfl (congrArg Value.bool c7) ?_
            refine RJ.run ttok 1 rfl ?_
            refine RJ.q rfl rfl (q_load_box ttok 2 (fun w e => e ▸ h4.wh) rfl rfl rfl rfl rfl) ?_
            refine RJ.run ttok 2 rfl ?_
            refine RJ.q rfl rfl (q_load_box ttok 0 (fun w e => e ▸ h4.wh) rfl rfl rfl rfl rfl) ?_
            refine RJ.run ttok 3 rfl ?_
            rcases Bool.eq_false_or_eq_true (decide ((a2.2.2.2.2.length : Int) ≤ a0.2.2.2.2.2.1)) with c8 | c8
            · replace H := ite_t c8 H
              refine RJ.know (t := 65) rfl (congrArg Value.bool c8) ?_
              refine RJ.run ttok 1 rfl ?_
              refine RJ.q rfl rfl (q_load_box ttok 2 (fun w e => e ▸ h4.wh) rfl rfl rfl rfl rfl) ?_
              obtain ⟨r3, q3, H⟩ := bind_t H
              refine RJ.op rfl rfl (op_call [] (sluicegateref11_Right.spec q3) rfl rfl rfl h4 rfl (gcons (Gives.self 6 rfl) gnil)) ?_
              rintro _ w9 ⟨_, ⟨rfl, rfl⟩, h10⟩
              refine RJ.run ttok 2 rfl ?_
              refine RJ.fin [(6, .bool r3)] rfl ?_
              refine J.ret ?_
              obtain rfl := Option.some.inj H
              exact ⟨_, _, _, (results_slots rfl), ⟨rfl, rfl⟩, h10.only [] rfl⟩
            · replace H := ite_f c8 H
              refine RJ.know (t := 65) rfl (congrArg Value.bool c8) ?_
              refine RJ.run ttok 5 rfl ?_
              refine RJ.fin [(6, .bool false)] rfl ?_
              refine J.ret ?_
              obtain rfl := Option.some.inj H
              exact ⟨_, _, _, (results_slots rfl), ⟨rfl, rfl⟩, h4.only [] rfl⟩
          · replace H := ite_f c7 H
            refine RJ.know (t := 57) rfl (congrArg Value.bool c7) ?_
            refine RJ.run ttok 13 rfl ?_
            refine RJ.fin [(6, .bool false)] rfl ?_
            refine J.ret ?_
            obtain rfl := Option.some.inj H
            exact ⟨_, _, _, (results_slots rfl), ⟨rfl, rfl⟩, h4.only [] rfl⟩
        · replace H := ite_f c6 H
          refine RJ.know (t := 51) rfl (congrArg Value.bool c6) ?_
          refine RJ.run ttok 19 rfl ?_
          refine RJ.fin [(6, .bool false)] rfl ?_
          refine J.ret ?_
          obtain rfl := Option.some.inj H
          exact ⟨_, _, _, (results_slots rfl), ⟨rfl, rfl⟩, h4.only [] rfl⟩
      · replace H := ite_f c5 H
        refine RJ.know (t := 45) rfl (congrArg Value.bool c5) ?_
        refine RJ.run ttok 25 rfl ?_
        refine RJ.fin [(6, .bool false)] rfl ?_
        refine J.ret ?_
        obtain rfl := Option.some.inj H
        exact ⟨_, _, _, (results_slots rfl), ⟨rfl, rfl⟩, h4.only [] rfl⟩

/-! sluicegate/sluicegateref12.Rise -/
def sluicegateref12_Rise.l0 : Nat → (List (List UInt8)) → (Int) → Option (Bool)
  | 0, _, _ => none
  | k + 1, a0, x1 => if (decide (x1 < (a0.length : Int))) = true then (if 0 ≤ (w64 (x1 - 1)) ∧ (w64 (x1 - 1)) < (a0.length : Int) then (if 0 ≤ x1 ∧ x1 < (a0.length : Int) then ((sluicegateref01_Compare.f k (gt a0 (w64 (x1 - 1))) (gt a0 x1)).bind fun r1 => (if (decide (0 ≤ r1)) = true then (some false) else (sluicegateref12_Rise.l0 k a0 (w64 (x1 + 1))))) else none) else none) else (some true)
def sluicegateref12_Rise.f (k : Nat) (a0 : List (List UInt8)) : Option (Bool) := sluicegateref12_Rise.l0 k a0 1
set_option maxRecDepth 20000 in
set_option maxHeartbeats 4000000 in
theorem sluicegateref12_Rise.spec {k : Nat} {a0 : List (List UInt8)} {A1 : Option Addr} {c_1 : Nat} {r : Bool} (H : sluicegateref12_Rise.f k a0 = some r) :
    Spec Try.prog 71 [.slice A1 a0.length c_1] [] [rdC 9 .str a0 (.slice A1 a0.length c_1)] (fun v l => v = .bool r ∧ l = []) := by
  refine Spec.enter Try.func71 rfl (by kernel_rfl) (by kernel_rfl) fun w0 F0 h0 => ?_
  unfold sluicegateref12_Rise.f at H
  refine J.seq ?_
  refine J.region ?_
  refine RJ.run ttok 1 rfl ?_
  refine RJ.fin [(0, .slice A1 a0.length c_1)] rfl ?_
  refine J.seq ?_
  refine J.seq ?_
  refine J.region ?_
  refine RJ.run ttok 1 rfl ?_
  refine RJ.fin [(0, .slice A1 a0.length c_1), (3, .int .i64 1)] rfl ?_
  refine J.block ?_
  have h5 := ((h0.only [] rfl).rds [0] rfl)
  refine J.loop (fun k env w => ∃ (x1 : Int), env = [(0, .slice A1 a0.length c_1), (3, .int .i64 x1)] ∧ St w0 F0 [] [rdC 9 .str a0 (.slice A1 a0.length c_1)] w ∧ sluicegateref12_Rise.l0 k a0 x1 = some r) (k := k) ⟨1, rfl, h5, H⟩ ?_
  rintro k1 env w1 ⟨x1, rfl, h1, H⟩
  cases k1 with
  | zero => exact nomatch (show none = some r from H)
  | succ k1 =>
    rw [sluicegateref12_Rise.l0] at H
    refine J.seq ?_
    refine J.seq ?_
    refine J.region ?_
    refine RJ.run ttok 4 rfl ?_
    refine RJ.fin [(0, .slice A1 a0.length c_1), (3, .int .i64 x1), (7, .bool (decide (x1 < (a0.length : Int))))] rfl ?_
    refine J.cond rfl (fun c1 => ?_) (fun c1 => ?_)
    · replace H := ite_t c1 H
      refine J.skip ?_
      refine J.seq ?_
      refine J.block ?_
      refine J.seq ?_
      refine J.heldSt mix h1 ?_
      have h2 := h1.drew
      refine HJ.run ttok rfl [0, 1, 2, 5, 6] rfl ?_
      obtain ⟨⟨p1, p2⟩, H⟩ := guard_t H
      have e1 := elem_A h2.wh (Gives.self 0 rfl) p1 p2
      refine HJ.q (i := 3) rfl rfl rfl rfl rfl rfl (q_index ttok rfl rfl rfl rfl rfl e1 p1 p2) ?_
      refine HJ.q (i := 4) rfl rfl rfl rfl rfl rfl (q_load_elem (f := 0) ttok rfl (fun w e => e) (Gives.self 0 rfl) p1 p2 rfl rfl rfl rfl rfl) ?_
      obtain ⟨⟨p3, p4⟩, H⟩ := guard_t H
      refine HJ.q (i := 7) rfl rfl rfl rfl rfl rfl (q_index ttok rfl rfl rfl rfl rfl e1 p3 p4) ?_
      refine HJ.q (i := 8) rfl rfl rfl rfl rfl rfl (q_load_elem (f := 0) ttok rfl (fun w e => e) (Gives.self 0 rfl) p3 p4 rfl rfl rfl rfl rfl) ?_
      obtain ⟨r1, q1, H⟩ := bind_t H
      refine HJ.op (i := 9) rfl rfl rfl rfl rfl (op_call [] (sluicegateref01_Compare.spec q1) rfl rfl rfl h2 rfl gnil) ?_
      rintro _ w2 ⟨_, ⟨rfl, rfl⟩, h3⟩
      refine ⟨⟨[], h3⟩, ?_⟩
      refine HJ.run ttok rfl [10] rfl ?_
      refine HJ.fin [(0, .slice A1 a0.length c_1), (3, .int .i64 x1), (20, .bool (decide (0 ≤ r1)))] rfl rfl ?_
      refine J.cond rfl (fun c2 => ?_) (fun c2 => ?_)
      · replace H := ite_t c2 H
        refine J.seq ?_
        refine J.region ?_
        refine RJ.run ttok 1 rfl ?_
        refine RJ.fin [(2, .bool false)] rfl ?_
        refine J.ret ?_
        obtain rfl := Option.some.inj H
        exact ⟨_, _, _, (results_slots rfl), ⟨rfl, rfl⟩, h3.only [] rfl⟩
      · replace H := ite_f c2 H
        refine J.skip ?_
        refine J.region ?_
        refine RJ.run ttok 3 rfl ?_
        refine RJ.fin [(0, .slice A1 a0.length c_1), (3, .int .i64 (w64 (x1 + 1)))] rfl ?_
        have h4 := ((h3.only [] rfl).rds [0] rfl)
        exact ⟨k1, by omega, (w64 (x1 + 1)), rfl, h4, H⟩
    · replace H := ite_f c1 H
      refine J.exit ?_
      refine J.seq ?_
      refine J.region ?_
      refine RJ.run ttok 1 rfl ?_
      refine RJ.fin [(2, .bool true)] rfl ?_
      refine J.ret ?_
      obtain rfl := Option.some.inj H
      exact ⟨_, _, _, (results_slots rfl), ⟨rfl, rfl⟩, h1.only [] rfl⟩

/-! sluicegate/sluicegateref12.Right -/
def sluicegateref12_Right.l0 : Nat → (List (List UInt8)) → (List UInt8 × List UInt8 × Bool) → (Int) → Option (Bool)
  | 0, _, _, _ => none
  | k + 1, a0, a1, x1 => if (decide (x1 < (a0.length : Int))) = true then (if 0 ≤ x1 ∧ x1 < (a0.length : Int) then ((sluicegateref01_In.f k (a1.1, a1.2.1, a1.2.2) (gt a0 x1)).bind fun r1 => (if (!r1) = true then (some false) else (if (decide ((gt a0 x1) = a1.1)) = true then (some false) else (sluicegateref12_Right.l0 k a0 a1 (w64 (x1 + 1)))))) else none) else ((sluicegateref12_Rise.f k a0).bind fun r2 => (some r2))
def sluicegateref12_Right.f (k : Nat) (a0 : List (List UInt8)) (a1 : List UInt8 × List UInt8 × Bool) : Option (Bool) := sluicegateref12_Right.l0 k a0 a1 0
set_option maxRecDepth 20000 in
set_option maxHeartbeats 4000000 in
theorem sluicegateref12_Right.spec {k : Nat} {a0 : List (List UInt8)} {a1 : List UInt8 × List UInt8 × Bool} {A1 : Option Addr} {c_1 : Nat} {r : Bool} (H : sluicegateref12_Right.f k a0 a1 = some r) :
    Spec Try.prog 96 [.slice A1 a0.length c_1, .agg #[.string ⟨⟨a1.1⟩⟩, .string ⟨⟨a1.2.1⟩⟩, .bool a1.2.2]] [] [rdC 9 .str a0 (.slice A1 a0.length c_1)] (fun v l => v = .bool r ∧ l = []) := by
  refine Spec.enter Try.func96 rfl (by kernel_rfl) (by kernel_rfl) fun w0 F0 h0 => ?_
  unfold sluicegateref12_Right.f at H
  refine J.seq ?_
  refine J.region ?_
  refine RJ.op rfl rfl (op_box rfl rfl h0) ?_
  rintro _ w1 ⟨b1, rfl, h1⟩
  refine RJ.run ttok 1 rfl ?_
  refine RJ.fin [(0, .slice A1 a0.length c_1), (3, .pointer (some ⟨b1, 0, none⟩))] rfl ?_
  refine J.seq ?_
  refine J.seq ?_
  refine J.region ?_
  refine RJ.run ttok 1 rfl ?_
  refine RJ.fin [(0, .slice A1 a0.length c_1), (3, .pointer (some ⟨b1, 0, none⟩)), (5, .int .i64 0)] rfl ?_
  refine J.block ?_
  have h7 := ((h1.only [0] rfl).rds [0] rfl)
  refine J.loop (fun k env w => ∃ (x1 : Int), env = [(0, .slice A1 a0.length c_1), (3, .pointer (some ⟨b1, 0, none⟩)), (5, .int .i64 x1)] ∧ St w0 F0 [boxC b1 25 [.string ⟨⟨a1.1⟩⟩, .string ⟨⟨a1.2.1⟩⟩, .bool a1.2.2]] [rdC 9 .str a0 (.slice A1 a0.length c_1)] w ∧ sluicegateref12_Right.l0 k a0 a1 x1 = some r) (k := k) ⟨0, rfl, h7, H⟩ ?_
  rintro k1 env w2 ⟨x1, rfl, h2, H⟩
  cases k1 with
  | zero => exact nomatch (show none = some r from H)
  | succ k1 =>
    rw [sluicegateref12_Right.l0] at H
    refine J.seq ?_
    refine J.seq ?_
    refine J.region ?_
    refine RJ.run ttok 4 rfl ?_
    refine RJ.fin [(0, .slice A1 a0.length c_1), (3, .pointer (some ⟨b1, 0, none⟩)), (5, .int .i64 x1), (9, .bool (decide (x1 < (a0.length : Int))))] rfl ?_
    refine J.cond rfl (fun c1 => ?_) (fun c1 => ?_)
    · replace H := ite_t c1 H
      refine J.skip ?_
      refine J.seq ?_
      refine J.block ?_
      refine J.seq ?_
      refine J.heldSt mix h2 ?_
      have h3 := h2.drew
      refine HJ.run ttok rfl [1, 2] rfl ?_
      refine HJ.q (i := 0) rfl rfl rfl rfl rfl rfl (q_load_box ttok 0 (fun w e => e) rfl rfl rfl rfl rfl) ?_
      obtain ⟨⟨p1, p2⟩, H⟩ := guard_t H
      have e1 := elem_A h3.wh (Gives.self 1 rfl) p1 p2
      refine HJ.q (i := 3) rfl rfl rfl rfl rfl rfl (q_index ttok rfl rfl rfl rfl rfl e1 p1 p2) ?_
      refine HJ.q (i := 4) rfl rfl rfl rfl rfl rfl (q_load_elem (f := 0) ttok rfl (fun w e => e) (Gives.self 1 rfl) p1 p2 rfl rfl rfl rfl rfl) ?_
      obtain ⟨r1, q1, H⟩ := bind_t H
      refine HJ.op (i := 5) rfl rfl rfl rfl rfl (op_call [] (sluicegateref01_In.spec q1) rfl rfl rfl h3 rfl gnil) ?_
      rintro _ w3 ⟨_, ⟨rfl, rfl⟩, h4⟩
      refine ⟨⟨[], h4⟩, ?_⟩
      refine HJ.run ttok rfl [6, 7] rfl ?_
      rcases Bool.eq_false_or_eq_true (!r1) with c2 | c2
      · replace H := ite_t c2 H
        refine HJ.know (t := 19) rfl (congrArg Value.bool c2) ?_
        refine HJ.run ttok rfl [8, 9, 10, 11, 12, 13, 14, 15] rfl ?_
        refine HJ.fin [(0, .slice A1 a0.length c_1), (3, .pointer (some ⟨b1, 0, none⟩)), (5, .int .i64 x1), (27, .bool true)] rfl rfl ?_
        refine J.condT rfl ?_
        refine J.seq ?_
        refine J.region ?_
        refine RJ.run ttok 1 rfl ?_
        refine RJ.fin [(4, .bool false)] rfl ?_
        refine J.ret ?_
        obtain rfl := Option.some.inj H
        exact ⟨_, _, _, (results_slots rfl), ⟨rfl, rfl⟩, h4.only [] rfl⟩
      · replace H := ite_f c2 H
        refine HJ.know (t := 19) rfl (congrArg Value.bool c2) ?_
        refine HJ.run ttok rfl [8, 9, 12] rfl ?_
        refine HJ.q (i := 10) rfl rfl rfl rfl rfl rfl (q_index ttok rfl rfl rfl rfl rfl e1 p1 p2) ?_
        refine HJ.q (i := 11) rfl rfl rfl rfl rfl rfl (q_load_elem (f := 0) ttok rfl (fun w e => e) (Gives.self 1 rfl) p1 p2 rfl rfl rfl rfl rfl) ?_
        refine HJ.q (i := 13) rfl rfl rfl rfl rfl rfl (q_load_box ttok 0 (fun w e => e) rfl rfl rfl rfl rfl) ?_
        refine HJ.run ttok rfl [14, 15] rfl ?_
        refine HJ.fin [(0, .slice A1 a0.length c_1), (3, .pointer (some ⟨b1, 0, none⟩)), (5, .int .i64 x1), (27, .bool (decide ((gt a0 x1) = a1.1)))] rfl rfl ?_
        refine J.cond rfl (fun c3 => ?_) (fun c3 => ?_)
        · replace H := ite_t c3 H
          refine J.seq ?_
          refine J.region ?_
          refine RJ.run ttok 1 rfl ?_
          refine RJ.fin [(4, .bool false)] rfl ?_
          refine J.ret ?_
          obtain rfl := Option.some.inj H
          exact ⟨_, _, _, (results_slots rfl), ⟨rfl, rfl⟩, h4.only [] rfl⟩
        · replace H := ite_f c3 H
          refine J.skip ?_
          refine J.region ?_
          refine RJ.run ttok 3 rfl ?_
          refine RJ.fin [(0, .slice A1 a0.length c_1), (3, .pointer (some ⟨b1, 0, none⟩)), (5, .int .i64 (w64 (x1 + 1)))] rfl ?_
          have h5 := ((h4.only [0] rfl).rds [0] rfl)
          exact ⟨k1, by omega, (w64 (x1 + 1)), rfl, h5, H⟩
    · replace H := ite_f c1 H
      refine J.exit ?_
      refine J.seq ?_
      refine J.region ?_
      refine RJ.run ttok 1 rfl ?_
      obtain ⟨r2, q2, H⟩ := bind_t H
      refine RJ.op rfl rfl (op_call [] (sluicegateref12_Rise.spec q2) rfl rfl rfl h2 rfl (gcons (Gives.self 1 rfl) gnil)) ?_
      rintro _ w4 ⟨_, ⟨rfl, rfl⟩, h6⟩
      refine RJ.run ttok 1 rfl ?_
      refine RJ.fin [(4, .bool r2)] rfl ?_
      refine J.ret ?_
      obtain rfl := Option.some.inj H
      exact ⟨_, _, _, (results_slots rfl), ⟨rfl, rfl⟩, h6.only [] rfl⟩

/-! sluicegate/sluicegateref10.Right -/
def sluicegateref10_Right.l0 : Nat → (List (List UInt8 × Bool × List UInt8)) → (Int) → Option (Bool)
  | 0, _, _ => none
  | k + 1, a0, x1 => if (decide (x1 < (a0.length : Int))) = true then (if 0 ≤ (w64 (x1 - 1)) ∧ (w64 (x1 - 1)) < (a0.length : Int) then (if 0 ≤ x1 ∧ x1 < (a0.length : Int) then ((sluicegateref01_Compare.f k ((gt a0 (w64 (x1 - 1))).1) ((gt a0 x1).1)).bind fun r1 => (if (decide (0 ≤ r1)) = true then (some false) else (sluicegateref10_Right.l0 k a0 (w64 (x1 + 1))))) else none) else none) else (some true)
def sluicegateref10_Right.f (k : Nat) (a0 : List (List UInt8 × Bool × List UInt8)) : Option (Bool) := sluicegateref10_Right.l0 k a0 1
set_option maxRecDepth 20000 in
set_option maxHeartbeats 4000000 in
theorem sluicegateref10_Right.spec {k : Nat} {a0 : List (List UInt8 × Bool × List UInt8)} {A1 : Option Addr} {c_1 : Nat} {r : Bool} (H : sluicegateref10_Right.f k a0 = some r) :
    Spec Try.prog 70 [.slice A1 a0.length c_1] [] [rdC 48 (.pair .str (.pair .bool .str)) a0 (.slice A1 a0.length c_1)] (fun v l => v = .bool r ∧ l = []) := by
  refine Spec.enter Try.func70 rfl (by kernel_rfl) (by kernel_rfl) fun w0 F0 h0 => ?_
  unfold sluicegateref10_Right.f at H
  refine J.seq ?_
  refine J.region ?_
  refine RJ.run ttok 1 rfl ?_
  refine RJ.fin [(0, .slice A1 a0.length c_1)] rfl ?_
  refine J.seq ?_
  refine J.seq ?_
  refine J.region ?_
  refine RJ.run ttok 1 rfl ?_
  refine RJ.fin [(0, .slice A1 a0.length c_1), (3, .int .i64 1)] rfl ?_
  refine J.block ?_
  have h5 := ((h0.only [] rfl).rds [0] rfl)
  refine J.loop (fun k env w => ∃ (x1 : Int), env = [(0, .slice A1 a0.length c_1), (3, .int .i64 x1)] ∧ St w0 F0 [] [rdC 48 (.pair .str (.pair .bool .str)) a0 (.slice A1 a0.length c_1)] w ∧ sluicegateref10_Right.l0 k a0 x1 = some r) (k := k) ⟨1, rfl, h5, H⟩ ?_
  rintro k1 env w1 ⟨x1, rfl, h1, H⟩
  cases k1 with
  | zero => exact nomatch (show none = some r from H)
  | succ k1 =>
    rw [sluicegateref10_Right.l0] at H
    refine J.seq ?_
    refine J.seq ?_
    refine J.region ?_
    refine RJ.run ttok 4 rfl ?_
    refine RJ.fin [(0, .slice A1 a0.length c_1), (3, .int .i64 x1), (7, .bool (decide (x1 < (a0.length : Int))))] rfl ?_
    refine J.cond rfl (fun c1 => ?_) (fun c1 => ?_)
    · replace H := ite_t c1 H
      refine J.skip ?_
      refine J.seq ?_
      refine J.block ?_
      refine J.seq ?_
      refine J.heldSt mix h1 ?_
      have h2 := h1.drew
      refine HJ.run ttok rfl [0, 1, 2, 6, 7] rfl ?_
      obtain ⟨⟨p1, p2⟩, H⟩ := guard_t H
      have e1 := elem_A h2.wh (Gives.self 0 rfl) p1 p2
      refine HJ.q (i := 3) rfl rfl rfl rfl rfl rfl (q_index ttok rfl rfl rfl rfl rfl e1 p1 p2) ?_
      refine HJ.run ttok rfl [4] rfl ?_
      refine HJ.q (i := 5) rfl rfl rfl rfl rfl rfl (q_load_elem (f := 0) ttok rfl (fun w e => e) (Gives.self 0 rfl) p1 p2 rfl rfl rfl rfl rfl) ?_
      obtain ⟨⟨p3, p4⟩, H⟩ := guard_t H
      refine HJ.q (i := 8) rfl rfl rfl rfl rfl rfl (q_index ttok rfl rfl rfl rfl rfl e1 p3 p4) ?_
      refine HJ.run ttok rfl [9] rfl ?_
      refine HJ.q (i := 10) rfl rfl rfl rfl rfl rfl (q_load_elem (f := 0) ttok rfl (fun w e => e) (Gives.self 0 rfl) p3 p4 rfl rfl rfl rfl rfl) ?_
      obtain ⟨r1, q1, H⟩ := bind_t H
      refine HJ.op (i := 11) rfl rfl rfl rfl rfl (op_call [] (sluicegateref01_Compare.spec q1) rfl rfl rfl h2 rfl gnil) ?_
      rintro _ w2 ⟨_, ⟨rfl, rfl⟩, h3⟩
      refine ⟨⟨[], h3⟩, ?_⟩
      refine HJ.run ttok rfl [12] rfl ?_
      refine HJ.fin [(0, .slice A1 a0.length c_1), (3, .int .i64 x1), (22, .bool (decide (0 ≤ r1)))] rfl rfl ?_
      refine J.cond rfl (fun c2 => ?_) (fun c2 => ?_)
      · replace H := ite_t c2 H
        refine J.seq ?_
        refine J.region ?_
        refine RJ.run ttok 1 rfl ?_
        refine RJ.fin [(2, .bool false)] rfl ?_
        refine J.ret ?_
        obtain rfl := Option.some.inj H
        exact ⟨_, _, _, (results_slots rfl), ⟨rfl, rfl⟩, h3.only [] rfl⟩
      · replace H := ite_f c2 H
        refine J.skip ?_
        refine J.region ?_
        refine RJ.run ttok 3 rfl ?_
        refine RJ.fin [(0, .slice A1 a0.length c_1), (3, .int .i64 (w64 (x1 + 1)))] rfl ?_
        have h4 := ((h3.only [] rfl).rds [0] rfl)
        exact ⟨k1, by omega, (w64 (x1 + 1)), rfl, h4, H⟩
    · replace H := ite_f c1 H
      refine J.exit ?_
      refine J.seq ?_
      refine J.region ?_
      refine RJ.run ttok 1 rfl ?_
      refine RJ.fin [(2, .bool true)] rfl ?_
      refine J.ret ?_
      obtain rfl := Option.some.inj H
      exact ⟨_, _, _, (results_slots rfl), ⟨rfl, rfl⟩, h1.only [] rfl⟩

/-! sluicegate/sluicegateref13.inner -/
def sluicegateref13_inner.l3 : Nat → (Int × Int × Int × Int × Int × Int × Int × Int) → (List UInt8 × List UInt8 × Bool) → (Int × List (Int) × List (List UInt8) × (List (List UInt8 × Bool × List UInt8)) × (List (List UInt8 × List UInt8))) → (Int) → Option (Bool)
  | 0, _, _, _, _ => none
  | k + 1, a0, a1, a2, x4 => if (decide (x4 < (a2.2.2.2.1.length : Int))) = true then (if 0 ≤ x4 ∧ x4 < (a2.2.2.2.1.length : Int) then ((sluicegateref13_Key.f (a0.1, a0.2.1, a0.2.2.1, a0.2.2.2.1, a0.2.2.2.2.1, a0.2.2.2.2.2.1, a0.2.2.2.2.2.2.1, a0.2.2.2.2.2.2.2) ((gt a2.2.2.2.1 x4).1)).bind fun r2 => (if (!r2) = true then (some false) else ((sluicegateref01_In.f k (a1.1, a1.2.1, a1.2.2) ((gt a2.2.2.2.1 x4).1)).bind fun r3 => (if (!r3) = true then (some false) else (if (decide (a0.2.2.2.2.2.2.2 < (((gt a2.2.2.2.1 x4).2.2).length : Int))) = true then (some false) else (if (gt a2.2.2.2.1 x4).2.1 = true then (if (!decide (((gt a2.2.2.2.1 x4).2.2) = ([] : List UInt8))) = true then (some false) else (sluicegateref13_inner.l3 k a0 a1 a2 (w64 (x4 + 1)))) else (sluicegateref13_inner.l3 k a0 a1 a2 (w64 (x4 + 1))))))))) else none) else (if (decide (40 < a2.1)) = true then (some false) else (if (decide (0 < (a2.2.2.2.2.length : Int))) = true then (some false) else (if (decide ((a2.2.1.length : Int) < 1)) = true then (some false) else (if (decide (a0.2.2.2.1 < (a2.2.1.length : Int))) = true then (some false) else (if (!decide ((w64 ((a2.2.2.1.length : Int) + 1)) = (a2.2.1.length : Int))) = true then (some false) else ((sluicegateref12_Right.f k a2.2.2.1 (a1.1, a1.2.1, a1.2.2)).bind fun r4 => (if r4 = true then (if (decide ((a2.2.2.2.1.length : Int) ≤ a0.2.2.2.2.1)) = true then ((sluicegateref10_Right.f k a2.2.2.2.1).bind fun r5 => (some r5)) else (some false)) else (some false))))))))
def sluicegateref13_inner.l2 : Nat → (Int × Int × Int × Int × Int × Int × Int × Int) → (List UInt8 × List UInt8 × Bool) → (Int × List (Int) × List (List UInt8) × (List (List UInt8 × Bool × List UInt8)) × (List (List UInt8 × List UInt8))) → (Int) → Option (Bool)
  | 0, _, _, _, _ => none
  | k + 1, a0, a1, a2, x3 => if (decide (x3 < (a2.2.2.1.length : Int))) = true then (if 0 ≤ x3 ∧ x3 < (a2.2.2.1.length : Int) then ((sluicegateref13_Key.f (a0.1, a0.2.1, a0.2.2.1, a0.2.2.2.1, a0.2.2.2.2.1, a0.2.2.2.2.2.1, a0.2.2.2.2.2.2.1, a0.2.2.2.2.2.2.2) (gt a2.2.2.1 x3)).bind fun r1 => (if (!r1) = true then (some false) else (sluicegateref13_inner.l2 k a0 a1 a2 (w64 (x3 + 1))))) else none) else (sluicegateref13_inner.l3 k a0 a1 a2 0)
mutual
def sluicegateref13_inner.l0 : Nat → (Int × Int × Int × Int × Int × Int × Int × Int) → (List UInt8 × List UInt8 × Bool) → (Int × List (Int) × List (List UInt8) × (List (List UInt8 × Bool × List UInt8)) × (List (List UInt8 × List UInt8))) → (Int) → Option (Bool)
  | 0, _, _, _, _ => none
  | k + 1, a0, a1, a2, x1 => if (decide (x1 < (a2.2.1.length : Int))) = true then (if 0 ≤ x1 ∧ x1 < (a2.2.1.length : Int) then (if (decide ((gt a2.2.1 x1) = 0)) = true then (some false) else (if (decide (a0.1 ≤ (w64 ((gt a2.2.1 x1))))) = true then (some false) else (sluicegateref13_inner.l1 k a0 a1 a2 x1 0))) else none) else (sluicegateref13_inner.l2 k a0 a1 a2 0)
def sluicegateref13_inner.l1 : Nat → (Int × Int × Int × Int × Int × Int × Int × Int) → (List UInt8 × List UInt8 × Bool) → (Int × List (Int) × List (List UInt8) × (List (List UInt8 × Bool × List UInt8)) × (List (List UInt8 × List UInt8))) → (Int) → (Int) → Option (Bool)
  | 0, _, _, _, _, _ => none
  | k + 1, a0, a1, a2, x1, x2 => if (decide (x2 < x1)) = true then (if 0 ≤ x2 ∧ x2 < (a2.2.1.length : Int) then (if (decide ((gt a2.2.1 x2) = (gt a2.2.1 x1))) = true then (some false) else (sluicegateref13_inner.l1 k a0 a1 a2 x1 (w64 (x2 + 1)))) else none) else (sluicegateref13_inner.l0 k a0 a1 a2 (w64 (x1 + 1)))
end
def sluicegateref13_inner.f (k : Nat) (a0 : Int × Int × Int × Int × Int × Int × Int × Int) (a1 : List UInt8 × List UInt8 × Bool) (a2 : Int × List (Int) × List (List UInt8) × (List (List UInt8 × Bool × List UInt8)) × (List (List UInt8 × List UInt8))) : Option (Bool) := sluicegateref13_inner.l0 k a0 a1 a2 0
set_option maxRecDepth 20000 in
set_option maxHeartbeats 4000000 in
theorem sluicegateref13_inner.spec {k : Nat} {a0 : Int × Int × Int × Int × Int × Int × Int × Int} {a1 : List UInt8 × List UInt8 × Bool} {a2 : Int × List (Int) × List (List UInt8) × (List (List UInt8 × Bool × List UInt8)) × (List (List UInt8 × List UInt8))} {A1 : Option Addr} {c_1 : Nat} {A2 : Option Addr} {c_2 : Nat} {A3 : Option Addr} {c_3 : Nat} {A4 : Option Addr} {c_4 : Nat} {r : Bool} (H : sluicegateref13_inner.f k a0 a1 a2 = some r) :
    Spec Try.prog 64 [.agg #[.int .i64 a0.1, .int .i64 a0.2.1, .int .i64 a0.2.2.1, .int .i64 a0.2.2.2.1, .int .i64 a0.2.2.2.2.1, .int .i64 a0.2.2.2.2.2.1, .int .i64 a0.2.2.2.2.2.2.1, .int .i64 a0.2.2.2.2.2.2.2], .agg #[.string ⟨⟨a1.1⟩⟩, .string ⟨⟨a1.2.1⟩⟩, .bool a1.2.2], .agg #[.int .i64 a2.1, .slice A1 a2.2.1.length c_1, .slice A2 a2.2.2.1.length c_2, .slice A3 a2.2.2.2.1.length c_3, .slice A4 a2.2.2.2.2.length c_4]] [] [rdC 46 (.int .u32) a2.2.1 (.slice A1 a2.2.1.length c_1), rdC 9 .str a2.2.2.1 (.slice A2 a2.2.2.1.length c_2), rdC 48 (.pair .str (.pair .bool .str)) a2.2.2.2.1 (.slice A3 a2.2.2.2.1.length c_3), rdC 50 (.pair .str .str) a2.2.2.2.2 (.slice A4 a2.2.2.2.2.length c_4)] (fun v l => v = .bool r ∧ l = []) := by
  refine Spec.enter Try.func64 rfl (by kernel_rfl) (by kernel_rfl) fun w0 F0 h0 => ?_
  unfold sluicegateref13_inner.f at H
  refine J.seq ?_
  refine J.region ?_
  refine RJ.op rfl rfl (op_box rfl rfl h0) ?_
  rintro _ w1 ⟨b1, rfl, h1⟩
  refine RJ.op rfl rfl (op_box rfl rfl h1) ?_
  rintro _ w2 ⟨b2, rfl, h2⟩
  refine RJ.op rfl rfl (op_box rfl rfl h2) ?_
  rintro _ w3 ⟨b3, rfl, h3⟩
  refine RJ.run ttok 1 rfl ?_
  refine RJ.fin [(3, .pointer (some ⟨b1, 0, none⟩)), (4, .pointer (some ⟨b2, 0, none⟩)), (5, .pointer (some ⟨b3, 0, none⟩))] rfl ?_
  refine J.seq ?_
  refine J.seq ?_
  refine J.region ?_
  refine RJ.run ttok 1 rfl ?_
  refine RJ.fin [(3, .pointer (some ⟨b1, 0, none⟩)), (4, .pointer (some ⟨b2, 0, none⟩)), (5, .pointer (some ⟨b3, 0, none⟩)), (7, .int .i64 0)] rfl ?_
  refine J.block ?_
  have h26 := ((h3.only [2, 1, 0] rfl).rds [0, 1, 2, 3] rfl)
  refine J.loop (fun k env w => ∃ (x1 : Int), env = [(3, .pointer (some ⟨b1, 0, none⟩)), (4, .pointer (some ⟨b2, 0, none⟩)), (5, .pointer (some ⟨b3, 0, none⟩)), (7, .int .i64 x1)] ∧ St w0 F0 [boxC b1 23 [.int .i64 a0.1, .int .i64 a0.2.1, .int .i64 a0.2.2.1, .int .i64 a0.2.2.2.1, .int .i64 a0.2.2.2.2.1, .int .i64 a0.2.2.2.2.2.1, .int .i64 a0.2.2.2.2.2.2.1, .int .i64 a0.2.2.2.2.2.2.2], boxC b2 25 [.string ⟨⟨a1.1⟩⟩, .string ⟨⟨a1.2.1⟩⟩, .bool a1.2.2], boxC b3 31 [.int .i64 a2.1, .slice A1 a2.2.1.length c_1, .slice A2 a2.2.2.1.length c_2, .slice A3 a2.2.2.2.1.length c_3, .slice A4 a2.2.2.2.2.length c_4]] [rdC 46 (.int .u32) a2.2.1 (.slice A1 a2.2.1.length c_1), rdC 9 .str a2.2.2.1 (.slice A2 a2.2.2.1.length c_2), rdC 48 (.pair .str (.pair .bool .str)) a2.2.2.2.1 (.slice A3 a2.2.2.2.1.length c_3), rdC 50 (.pair .str .str) a2.2.2.2.2 (.slice A4 a2.2.2.2.2.length c_4)] w ∧ sluicegateref13_inner.l0 k a0 a1 a2 x1 = some r) (k := k) ⟨0, rfl, h26, H⟩ ?_
  rintro k1 env w4 ⟨x1, rfl, h4, H⟩
  cases k1 with
  | zero => exact nomatch (show none = some r from H)
  | succ k1 =>
    rw [sluicegateref13_inner.l0] at H
    refine J.seq ?_
    refine J.seq ?_
    refine J.region ?_
    refine RJ.run ttok 2 rfl ?_
    refine RJ.q rfl rfl (q_load_box ttok 2 (fun w e => e ▸ h4.wh) rfl rfl rfl rfl rfl) ?_
    refine RJ.run ttok 2 rfl ?_
    refine RJ.fin [(3, .pointer (some ⟨b1, 0, none⟩)), (4, .pointer (some ⟨b2, 0, none⟩)), (5, .pointer (some ⟨b3, 0, none⟩)), (7, .int .i64 x1), (16, .bool (decide (x1 < (a2.2.1.length : Int))))] rfl ?_
    refine J.cond rfl (fun c1 => ?_) (fun c1 => ?_)
    · replace H := ite_t c1 H
      refine J.skip ?_
      refine J.seq ?_
      refine J.block ?_
      refine J.seq ?_
      refine J.seq ?_
      refine J.heldSt mix h4 ?_
      have h5 := h4.drew
      refine HJ.run ttok rfl [0, 2] rfl ?_
      refine HJ.q (i := 1) rfl rfl rfl rfl rfl rfl (q_load_box ttok 2 (fun w e => e) rfl rfl rfl rfl rfl) ?_
      obtain ⟨⟨p1, p2⟩, H⟩ := guard_t H
      have e1 := elem_A h5.wh (Gives.self 3 rfl) p1 p2
      refine HJ.q (i := 3) rfl rfl rfl rfl rfl rfl (q_index ttok rfl rfl rfl rfl rfl e1 p1 p2) ?_
      refine HJ.q (i := 4) rfl rfl rfl rfl rfl rfl (q_load_elem (f := 0) ttok rfl (fun w e => e) (Gives.self 3 rfl) p1 p2 rfl rfl rfl rfl rfl) ?_
      refine HJ.run ttok rfl [5, 6] rfl ?_
      rcases Bool.eq_false_or_eq_true (decide ((gt a2.2.1 x1) = 0)) with c2 | c2
      · replace H := ite_t c2 H
        refine HJ.know (t := 25) rfl (congrArg Value.bool c2) ?_
        refine HJ.run ttok rfl [7, 8, 9, 10, 11, 12, 13, 14, 15, 16] rfl ?_
        refine HJ.fin [(3, .pointer (some ⟨b1, 0, none⟩)), (4, .pointer (some ⟨b2, 0, none⟩)), (5, .pointer (some ⟨b3, 0, none⟩)), (7, .int .i64 x1), (35, .bool true)] rfl rfl ?_
        refine J.condT rfl ?_
        refine J.seq ?_
        refine J.region ?_
        refine RJ.run ttok 1 rfl ?_
        refine RJ.fin [(6, .bool false)] rfl ?_
        refine J.ret ?_
        obtain rfl := Option.some.inj H
        exact ⟨_, _, _, (results_slots rfl), ⟨rfl, rfl⟩, h5.only [] rfl⟩
      · replace H := ite_f c2 H
        refine HJ.know (t := 25) rfl (congrArg Value.bool c2) ?_
        refine HJ.run ttok rfl [7, 9, 13] rfl ?_
        refine HJ.q (i := 8) rfl rfl rfl rfl rfl rfl (q_load_box ttok 2 (fun w e => e) rfl rfl rfl rfl rfl) ?_
        refine HJ.q (i := 10) rfl rfl rfl rfl rfl rfl (q_index ttok rfl rfl rfl rfl rfl e1 p1 p2) ?_
        refine HJ.q (i := 11) rfl rfl rfl rfl rfl rfl (q_load_elem (f := 0) ttok rfl (fun w e => e) (Gives.self 3 rfl) p1 p2 rfl rfl rfl rfl rfl) ?_
        refine HJ.run ttok rfl [12] rfl ?_
        refine HJ.q (i := 14) rfl rfl rfl rfl rfl rfl (q_load_box ttok 0 (fun w e => e) rfl rfl rfl rfl rfl) ?_
        refine HJ.run ttok rfl [15, 16] rfl ?_
        refine HJ.fin [(3, .pointer (some ⟨b1, 0, none⟩)), (4, .pointer (some ⟨b2, 0, none⟩)), (5, .pointer (some ⟨b3, 0, none⟩)), (7, .int .i64 x1), (35, .bool (decide (a0.1 ≤ (w64 ((gt a2.2.1 x1))))))] rfl rfl ?_
        refine J.cond rfl (fun c3 => ?_) (fun c3 => ?_)
        · replace H := ite_t c3 H
          refine J.seq ?_
          refine J.region ?_
          refine RJ.run ttok 1 rfl ?_
          refine RJ.fin [(6, .bool false)] rfl ?_
          refine J.ret ?_
          obtain rfl := Option.some.inj H
          exact ⟨_, _, _, (results_slots rfl), ⟨rfl, rfl⟩, h5.only [] rfl⟩
        · replace H := ite_f c3 H
          refine J.skip ?_
          refine J.seq ?_
          refine J.region ?_
          refine RJ.run ttok 1 rfl ?_
          refine RJ.fin [(3, .pointer (some ⟨b1, 0, none⟩)), (4, .pointer (some ⟨b2, 0, none⟩)), (5, .pointer (some ⟨b3, 0, none⟩)), (7, .int .i64 x1), (8, .int .i64 0)] rfl ?_
          refine J.block ?_
          have h10 := ((h5.only [0, 0, 0] rfl).rds [0, 1, 2, 3] rfl)
          refine J.loop (fun k env w => ∃ (x2 : Int), env = [(3, .pointer (some ⟨b1, 0, none⟩)), (4, .pointer (some ⟨b2, 0, none⟩)), (5, .pointer (some ⟨b3, 0, none⟩)), (7, .int .i64 x1), (8, .int .i64 x2)] ∧ St w0 F0 [boxC b1 23 [.int .i64 a0.1, .int .i64 a0.2.1, .int .i64 a0.2.2.1, .int .i64 a0.2.2.2.1, .int .i64 a0.2.2.2.2.1, .int .i64 a0.2.2.2.2.2.1, .int .i64 a0.2.2.2.2.2.2.1, .int .i64 a0.2.2.2.2.2.2.2], boxC b2 25 [.string ⟨⟨a1.1⟩⟩, .string ⟨⟨a1.2.1⟩⟩, .bool a1.2.2], boxC b3 31 [.int .i64 a2.1, .slice A1 a2.2.1.length c_1, .slice A2 a2.2.2.1.length c_2, .slice A3 a2.2.2.2.1.length c_3, .slice A4 a2.2.2.2.2.length c_4]] [rdC 46 (.int .u32) a2.2.1 (.slice A1 a2.2.1.length c_1), rdC 9 .str a2.2.2.1 (.slice A2 a2.2.2.1.length c_2), rdC 48 (.pair .str (.pair .bool .str)) a2.2.2.2.1 (.slice A3 a2.2.2.2.1.length c_3), rdC 50 (.pair .str .str) a2.2.2.2.2 (.slice A4 a2.2.2.2.2.length c_4)] w ∧ sluicegateref13_inner.l1 k a0 a1 a2 x1 x2 = some r ∧ k ≤ k1) (k := k1) ⟨0, rfl, h10, H, Nat.le_refl _⟩ ?_
          rintro k2 env w5 ⟨x2, rfl, h6, H, hk2⟩
          cases k2 with
          | zero => exact nomatch (show none = some r from H)
          | succ k2 =>
            rw [sluicegateref13_inner.l1] at H
            refine J.seq ?_
            refine J.seq ?_
            refine J.region ?_
            refine RJ.run ttok 3 rfl ?_
            refine RJ.fin [(3, .pointer (some ⟨b1, 0, none⟩)), (4, .pointer (some ⟨b2, 0, none⟩)), (5, .pointer (some ⟨b3, 0, none⟩)), (7, .int .i64 x1), (8, .int .i64 x2), (38, .bool (decide (x2 < x1)))] rfl ?_
            refine J.cond rfl (fun c4 => ?_) (fun c4 => ?_)
            · replace H := ite_t c4 H
              refine J.skip ?_
              refine J.seq ?_
              refine J.block ?_
              refine J.seq ?_
              refine J.heldSt mix h6 ?_
              have h7 := h6.drew
              refine HJ.run ttok rfl [0, 2, 5, 7] rfl ?_
              refine HJ.q (i := 1) rfl rfl rfl rfl rfl rfl (q_load_box ttok 2 (fun w e => e) rfl rfl rfl rfl rfl) ?_
              obtain ⟨⟨p3, p4⟩, H⟩ := guard_t H
              refine HJ.q (i := 3) rfl rfl rfl rfl rfl rfl (q_index ttok rfl rfl rfl rfl rfl e1 p3 p4) ?_
              refine HJ.q (i := 4) rfl rfl rfl rfl rfl rfl (q_load_elem (f := 0) ttok rfl (fun w e => e) (Gives.self 3 rfl) p3 p4 rfl rfl rfl rfl rfl) ?_
              refine HJ.q (i := 6) rfl rfl rfl rfl rfl rfl (q_load_box ttok 2 (fun w e => e) rfl rfl rfl rfl rfl) ?_
              refine HJ.q (i := 8) rfl rfl rfl rfl rfl rfl (q_index ttok rfl rfl rfl rfl rfl e1 p1 p2) ?_
              refine HJ.q (i := 9) rfl rfl rfl rfl rfl rfl (q_load_elem (f := 0) ttok rfl (fun w e => e) (Gives.self 3 rfl) p1 p2 rfl rfl rfl rfl rfl) ?_
              refine HJ.run ttok rfl [10] rfl ?_
              refine HJ.fin [(3, .pointer (some ⟨b1, 0, none⟩)), (4, .pointer (some ⟨b2, 0, none⟩)), (5, .pointer (some ⟨b3, 0, none⟩)), (7, .int .i64 x1), (8, .int .i64 x2), (51, .bool (decide ((gt a2.2.1 x2) = (gt a2.2.1 x1))))] rfl rfl ?_
              refine J.cond rfl (fun c5 => ?_) (fun c5 => ?_)
              · replace H := ite_t c5 H
                refine J.seq ?_
                refine J.region ?_
                refine RJ.run ttok 1 rfl ?_
                refine RJ.fin [(6, .bool false)] rfl ?_
                refine J.ret ?_
                obtain rfl := Option.some.inj H
                exact ⟨_, _, _, (results_slots rfl), ⟨rfl, rfl⟩, h7.only [] rfl⟩
              · replace H := ite_f c5 H
                refine J.skip ?_
                refine J.region ?_
                refine RJ.run ttok 3 rfl ?_
                refine RJ.fin [(3, .pointer (some ⟨b1, 0, none⟩)), (4, .pointer (some ⟨b2, 0, none⟩)), (5, .pointer (some ⟨b3, 0, none⟩)), (7, .int .i64 x1), (8, .int .i64 (w64 (x2 + 1)))] rfl ?_
                have h8 := ((h7.only [0, 0, 0] rfl).rds [0, 1, 2, 3] rfl)
                exact ⟨k2, by omega, (w64 (x2 + 1)), rfl, h8, H, by omega⟩
            · replace H := ite_f c4 H
              refine J.exit ?_
              refine J.region ?_
              refine RJ.run ttok 3 rfl ?_
              refine RJ.fin [(3, .pointer (some ⟨b1, 0, none⟩)), (4, .pointer (some ⟨b2, 0, none⟩)), (5, .pointer (some ⟨b3, 0, none⟩)), (7, .int .i64 (w64 (x1 + 1)))] rfl ?_
              have h9 := ((h6.only [0, 0, 0] rfl).rds [0, 1, 2, 3] rfl)
              exact ⟨k2, by omega, (w64 (x1 + 1)), rfl, h9, H⟩
    · replace H := ite_f c1 H
      refine J.exit ?_
      refine J.seq ?_
      refine J.seq ?_
      refine J.region ?_
      refine RJ.run ttok 1 rfl ?_
      refine RJ.fin [(3, .pointer (some ⟨b1, 0, none⟩)), (4, .pointer (some ⟨b2, 0, none⟩)), (5, .pointer (some ⟨b3, 0, none⟩)), (9, .int .i64 0)] rfl ?_
      refine J.block ?_
      have h25 := ((h4.only [0, 0, 0] rfl).rds [0, 1, 2, 3] rfl)
      refine J.loop (fun k env w => ∃ (x3 : Int), env = [(3, .pointer (some ⟨b1, 0, none⟩)), (4, .pointer (some ⟨b2, 0, none⟩)), (5, .pointer (some ⟨b3, 0, none⟩)), (9, .int .i64 x3)] ∧ St w0 F0 [boxC b1 23 [.int .i64 a0.1, .int .i64 a0.2.1, .int .i64 a0.2.2.1, .int .i64 a0.2.2.2.1, .int .i64 a0.2.2.2.2.1, .int .i64 a0.2.2.2.2.2.1, .int .i64 a0.2.2.2.2.2.2.1, .int .i64 a0.2.2.2.2.2.2.2], boxC b2 25 [.string ⟨⟨a1.1⟩⟩, .string ⟨⟨a1.2.1⟩⟩, .bool a1.2.2], boxC b3 31 [.int .i64 a2.1, .slice A1 a2.2.1.length c_1, .slice A2 a2.2.2.1.length c_2, .slice A3 a2.2.2.2.1.length c_3, .slice A4 a2.2.2.2.2.length c_4]] [rdC 46 (.int .u32) a2.2.1 (.slice A1 a2.2.1.length c_1), rdC 9 .str a2.2.2.1 (.slice A2 a2.2.2.1.length c_2), rdC 48 (.pair .str (.pair .bool .str)) a2.2.2.2.1 (.slice A3 a2.2.2.2.1.length c_3), rdC 50 (.pair .str .str) a2.2.2.2.2 (.slice A4 a2.2.2.2.2.length c_4)] w ∧ sluicegateref13_inner.l2 k a0 a1 a2 x3 = some r) (k := k1) ⟨0, rfl, h25, H⟩ ?_
      rintro k3 env w6 ⟨x3, rfl, h11, H⟩
      cases k3 with
      | zero => exact nomatch (show none = some r from H)
      | succ k3 =>
        rw [sluicegateref13_inner.l2] at H
        refine J.seq ?_
        refine J.seq ?_
        refine J.region ?_
        refine RJ.run ttok 2 rfl ?_
        refine RJ.q rfl rfl (q_load_box ttok 2 (fun w e => e ▸ h11.wh) rfl rfl rfl rfl rfl) ?_
        refine RJ.run ttok 2 rfl ?_
        refine RJ.fin [(3, .pointer (some ⟨b1, 0, none⟩)), (4, .pointer (some ⟨b2, 0, none⟩)), (5, .pointer (some ⟨b3, 0, none⟩)), (9, .int .i64 x3), (56, .bool (decide (x3 < (a2.2.2.1.length : Int))))] rfl ?_
        refine J.cond rfl (fun c6 => ?_) (fun c6 => ?_)
        · replace H := ite_t c6 H
          refine J.skip ?_
          refine J.seq ?_
          refine J.block ?_
          refine J.seq ?_
          refine J.heldSt mix h11 ?_
          have h12 := h11.drew
          refine HJ.run ttok rfl [1, 3] rfl ?_
          refine HJ.q (i := 0) rfl rfl rfl rfl rfl rfl (q_load_box ttok 0 (fun w e => e) rfl rfl rfl rfl rfl) ?_
          refine HJ.q (i := 2) rfl rfl rfl rfl rfl rfl (q_load_box ttok 2 (fun w e => e) rfl rfl rfl rfl rfl) ?_
          obtain ⟨⟨p5, p6⟩, H⟩ := guard_t H
          have e2 := elem_A h12.wh (Gives.self 4 rfl) p5 p6
          refine HJ.q (i := 4) rfl rfl rfl rfl rfl rfl (q_index ttok rfl rfl rfl rfl rfl e2 p5 p6) ?_
          refine HJ.q (i := 5) rfl rfl rfl rfl rfl rfl (q_load_elem (f := 0) ttok rfl (fun w e => e) (Gives.self 4 rfl) p5 p6 rfl rfl rfl rfl rfl) ?_
          obtain ⟨r1, q1, H⟩ := bind_t H
          refine HJ.op (i := 6) rfl rfl rfl rfl rfl (op_call [] (sluicegateref13_Key.spec q1) rfl rfl rfl h12 rfl gnil) ?_
          rintro _ w7 ⟨_, ⟨rfl, rfl⟩, h13⟩
          refine ⟨⟨[], h13⟩, ?_⟩
          refine HJ.run ttok rfl [7] rfl ?_
          refine HJ.fin [(3, .pointer (some ⟨b1, 0, none⟩)), (4, .pointer (some ⟨b2, 0, none⟩)), (5, .pointer (some ⟨b3, 0, none⟩)), (9, .int .i64 x3), (66, .bool (!r1))] rfl rfl ?_
          refine J.cond rfl (fun c7 => ?_) (fun c7 => ?_)
          · replace H := ite_t c7 H
            refine J.seq ?_
            refine J.region ?_
            refine RJ.run ttok 1 rfl ?_
            refine RJ.fin [(6, .bool false)] rfl ?_
            refine J.ret ?_
            obtain rfl := Option.some.inj H
            exact ⟨_, _, _, (results_slots rfl), ⟨rfl, rfl⟩, h13.only [] rfl⟩
          · replace H := ite_f c7 H
            refine J.skip ?_
            refine J.region ?_
            refine RJ.run ttok 3 rfl ?_
            refine RJ.fin [(3, .pointer (some ⟨b1, 0, none⟩)), (4, .pointer (some ⟨b2, 0, none⟩)), (5, .pointer (some ⟨b3, 0, none⟩)), (9, .int .i64 (w64 (x3 + 1)))] rfl ?_
            have h14 := ((h13.only [0, 0, 0] rfl).rds [0, 1, 2, 3] rfl)
            exact ⟨k3, by omega, (w64 (x3 + 1)), rfl, h14, H⟩
        · replace H := ite_f c6 H
          refine J.exit ?_
          refine J.seq ?_
          refine J.seq ?_
          refine J.region ?_
          refine RJ.run ttok 1 rfl ?_
          refine RJ.fin [(3, .pointer (some ⟨b1, 0, none⟩)), (4, .pointer (some ⟨b2, 0, none⟩)), (5, .pointer (some ⟨b3, 0, none⟩)), (10, .int .i64 0)] rfl ?_
          refine J.block ?_
          have h24 := ((h11.only [0, 0, 0] rfl).rds [0, 1, 2, 3] rfl)
          refine J.loop (fun k env w => ∃ (x4 : Int), env = [(3, .pointer (some ⟨b1, 0, none⟩)), (4, .pointer (some ⟨b2, 0, none⟩)), (5, .pointer (some ⟨b3, 0, none⟩)), (10, .int .i64 x4)] ∧ St w0 F0 [boxC b1 23 [.int .i64 a0.1, .int .i64 a0.2.1, .int .i64 a0.2.2.1, .int .i64 a0.2.2.2.1, .int .i64 a0.2.2.2.2.1, .int .i64 a0.2.2.2.2.2.1, .int .i64 a0.2.2.2.2.2.2.1, .int .i64 a0.2.2.2.2.2.2.2], boxC b2 25 [.string ⟨⟨a1.1⟩⟩, .string ⟨⟨a1.2.1⟩⟩, .bool a1.2.2], boxC b3 31 [.int .i64 a2.1, .slice A1 a2.2.1.length c_1, .slice A2 a2.2.2.1.length c_2, .slice A3 a2.2.2.2.1.length c_3, .slice A4 a2.2.2.2.2.length c_4]] [rdC 46 (.int .u32) a2.2.1 (.slice A1 a2.2.1.length c_1), rdC 9 .str a2.2.2.1 (.slice A2 a2.2.2.1.length c_2), rdC 48 (.pair .str (.pair .bool .str)) a2.2.2.2.1 (.slice A3 a2.2.2.2.1.length c_3), rdC 50 (.pair .str .str) a2.2.2.2.2 (.slice A4 a2.2.2.2.2.length c_4)] w ∧ sluicegateref13_inner.l3 k a0 a1 a2 x4 = some r) (k := k3) ⟨0, rfl, h24, H⟩ ?_
          rintro k4 env w8 ⟨x4, rfl, h15, H⟩
          cases k4 with
          | zero => exact nomatch (show none = some r from H)
          | succ k4 =>
            rw [sluicegateref13_inner.l3] at H
            refine J.seq ?_
            refine J.seq ?_
            refine J.region ?_
            refine RJ.run ttok 2 rfl ?_
            refine RJ.q rfl rfl (q_load_box ttok 2 (fun w e => e ▸ h15.wh) rfl rfl rfl rfl rfl) ?_
            refine RJ.run ttok 2 rfl ?_
            refine RJ.fin [(3, .pointer (some ⟨b1, 0, none⟩)), (4, .pointer (some ⟨b2, 0, none⟩)), (5, .pointer (some ⟨b3, 0, none⟩)), (10, .int .i64 x4), (71, .bool (decide (x4 < (a2.2.2.2.1.length : Int))))] rfl ?_
            refine J.cond rfl (fun c8 => ?_) (fun c8 => ?_)
            · replace H := ite_t c8 H
              refine J.skip ?_
              refine J.seq ?_
              refine J.block ?_
              refine J.seq ?_
              refine J.region ?_
              refine RJ.run ttok 1 rfl ?_
              refine RJ.q rfl rfl (q_load_box ttok 2 (fun w e => e ▸ h15.wh) rfl rfl rfl rfl rfl) ?_
              refine RJ.run ttok 1 rfl ?_
              obtain ⟨⟨p7, p8⟩, H⟩ := guard_t H
              have e3 := elem_A h15.wh (Gives.self 5 rfl) p7 p8
              refine RJ.q rfl rfl (q_index ttok rfl rfl rfl rfl rfl e3 p7 p8) ?_
              refine RJ.q rfl rfl (q_load_elem (f := 0) ttok rfl (fun w e => e ▸ h15.wh) (Gives.self 5 rfl) p7 p8 rfl rfl rfl rfl rfl) ?_
              refine RJ.op rfl rfl (op_alloc ttok rfl rfl h15) ?_
              rintro _ w9 ⟨b4, rfl, h16⟩
              refine RJ.op rfl rfl (op_store ttok 0 rfl h16 rfl rfl rfl rfl rfl rfl rfl) ?_
              intro _ w10 h17
              replace h17 : St w0 F0 (boxC b4 48 [.string ⟨⟨(gt a2.2.2.2.1 x4).1⟩⟩, .bool ((gt a2.2.2.2.1 x4).2.1), .string ⟨⟨(gt a2.2.2.2.1 x4).2.2⟩⟩] :: _) _ w10 := h17
              refine RJ.fin [(3, .pointer (some ⟨b1, 0, none⟩)), (4, .pointer (some ⟨b2, 0, none⟩)), (5, .pointer (some ⟨b3, 0, none⟩)), (10, .int .i64 x4), (11, .pointer (some ⟨b4, 0, none⟩))] rfl ?_
              refine J.seq ?_
              refine J.region ?_
              refine RJ.q rfl rfl (q_load_box ttok 1 (fun w e => e ▸ h17.wh) rfl rfl rfl rfl rfl) ?_
              refine RJ.run ttok 1 rfl ?_
              refine RJ.q rfl rfl (q_load_box ttok 0 (fun w e => e ▸ h17.wh) rfl rfl rfl rfl rfl) ?_
              obtain ⟨r2, q2, H⟩ := bind_t H
              refine RJ.op rfl rfl (op_call [] (sluicegateref13_Key.spec q2) rfl rfl rfl h17 rfl gnil) ?_
              rintro _ w11 ⟨_, ⟨rfl, rfl⟩, h18⟩
              refine RJ.run ttok 2 rfl ?_
              rcases Bool.eq_false_or_eq_true (!r2) with c9 | c9
              · replace H := ite_t c9 H
                refine RJ.know (t := 84) rfl (congrArg Value.bool c9) ?_
                refine RJ.run ttok 23 rfl ?_
                refine RJ.fin [(3, .pointer (some ⟨b1, 0, none⟩)), (4, .pointer (some ⟨b2, 0, none⟩)), (5, .pointer (some ⟨b3, 0, none⟩)), (10, .int .i64 x4), (107, .bool true)] rfl ?_
                refine J.condT rfl ?_
                refine J.seq ?_
                refine J.region ?_
                refine RJ.run ttok 1 rfl ?_
                refine RJ.fin [(6, .bool false)] rfl ?_
                refine J.ret ?_
                obtain rfl := Option.some.inj H
                exact ⟨_, _, _, (results_slots rfl), ⟨rfl, rfl⟩, h18.only [] rfl⟩
              · replace H := ite_f c9 H
                refine RJ.know (t := 84) rfl (congrArg Value.bool c9) ?_
                refine RJ.q rfl rfl (q_load_box ttok 2 (fun w e => e ▸ h18.wh) rfl rfl rfl rfl rfl) ?_
                refine RJ.run ttok 1 rfl ?_
                refine RJ.q rfl rfl (q_load_box ttok 0 (fun w e => e ▸ h18.wh) rfl rfl rfl rfl rfl) ?_
                obtain ⟨r3, q3, H⟩ := bind_t H
                refine RJ.op rfl rfl (op_call [] (sluicegateref01_In.spec q3) rfl rfl rfl h18 rfl gnil) ?_
                rintro _ w12 ⟨_, ⟨rfl, rfl⟩, h19⟩
                refine RJ.run ttok 3 rfl ?_
                rcases Bool.eq_false_or_eq_true (!r3) with c10 | c10
                · replace H := ite_t c10 H
                  refine RJ.know (t := 91) rfl (congrArg Value.bool c10) ?_
                  refine RJ.run ttok 16 rfl ?_
                  refine RJ.fin [(3, .pointer (some ⟨b1, 0, none⟩)), (4, .pointer (some ⟨b2, 0, none⟩)), (5, .pointer (some ⟨b3, 0, none⟩)), (10, .int .i64 x4), (107, .bool true)] rfl ?_
                  refine J.condT rfl ?_
                  refine J.seq ?_
                  refine J.region ?_
                  refine RJ.run ttok 1 rfl ?_
                  refine RJ.fin [(6, .bool false)] rfl ?_
                  refine J.ret ?_
                  obtain rfl := Option.some.inj H
                  exact ⟨_, _, _, (results_slots rfl), ⟨rfl, rfl⟩, h19.only [] rfl⟩
                · replace H := ite_f c10 H
                  refine RJ.know (t := 91) rfl (congrArg Value.bool c10) ?_
                  refine RJ.run ttok 1 rfl ?_
                  refine RJ.q rfl rfl (q_load_box ttok 0 (fun w e => e ▸ h19.wh) rfl rfl rfl rfl rfl) ?_
                  refine RJ.run ttok 2 rfl ?_
                  refine RJ.q rfl rfl (q_load_box ttok 1 (fun w e => e ▸ h19.wh) rfl rfl rfl rfl rfl) ?_
                  refine RJ.run ttok 3 rfl ?_
                  rcases Bool.eq_false_or_eq_true (decide (a0.2.2.2.2.2.2.2 < (((gt a2.2.2.2.1 x4).2.2).length : Int))) with c11 | c11
                  · replace H := ite_t c11 H
                    refine RJ.know (t := 99) rfl (congrArg Value.bool c11) ?_
                    refine RJ.run ttok 8 rfl ?_
                    refine RJ.fin [(3, .pointer (some ⟨b1, 0, none⟩)), (4, .pointer (some ⟨b2, 0, none⟩)), (5, .pointer (some ⟨b3, 0, none⟩)), (10, .int .i64 x4), (107, .bool true)] rfl ?_
                    refine J.condT rfl ?_
                    refine J.seq ?_
                    refine J.region ?_
                    refine RJ.run ttok 1 rfl ?_
                    refine RJ.fin [(6, .bool false)] rfl ?_
                    refine J.ret ?_
                    obtain rfl := Option.some.inj H
                    exact ⟨_, _, _, (results_slots rfl), ⟨rfl, rfl⟩, h19.only [] rfl⟩
                  · replace H := ite_f c11 H
                    refine RJ.know (t := 99) rfl (congrArg Value.bool c11) ?_
                    refine RJ.run ttok 1 rfl ?_
                    refine RJ.q rfl rfl (q_load_box ttok 0 (fun w e => e ▸ h19.wh) rfl rfl rfl rfl rfl) ?_
                    refine RJ.run ttok 1 rfl ?_
                    rcases Bool.eq_false_or_eq_true ((gt a2.2.2.2.1 x4).2.1) with c12 | c12
                    · replace H := ite_t c12 H
                      refine RJ.know (t := 102) rfl (congrArg Value.bool c12) ?_
                      refine RJ.run ttok 1 rfl ?_
                      refine RJ.q rfl rfl (q_load_box ttok 0 (fun w e => e ▸ h19.wh) rfl rfl rfl rfl rfl) ?_
                      refine RJ.run ttok 3 rfl ?_
                      refine RJ.fin [(3, .pointer (some ⟨b1, 0, none⟩)), (4, .pointer (some ⟨b2, 0, none⟩)), (5, .pointer (some ⟨b3, 0, none⟩)), (10, .int .i64 x4), (107, .bool (!decide (((gt a2.2.2.2.1 x4).2.2) = ([] : List UInt8))))] rfl ?_
                      refine J.cond rfl (fun c13 => ?_) (fun c13 => ?_)
                      · replace H := ite_t c13 H
                        refine J.seq ?_
                        refine J.region ?_
                        refine RJ.run ttok 1 rfl ?_
                        refine RJ.fin [(6, .bool false)] rfl ?_
                        refine J.ret ?_
                        obtain rfl := Option.some.inj H
                        exact ⟨_, _, _, (results_slots rfl), ⟨rfl, rfl⟩, h19.only [] rfl⟩
                      · replace H := ite_f c13 H
                        refine J.skip ?_
                        refine J.region ?_
                        refine RJ.run ttok 3 rfl ?_
                        refine RJ.fin [(3, .pointer (some ⟨b1, 0, none⟩)), (4, .pointer (some ⟨b2, 0, none⟩)), (5, .pointer (some ⟨b3, 0, none⟩)), (10, .int .i64 (w64 (x4 + 1)))] rfl ?_
                        have h20 := ((h19.only [1, 1, 1] rfl).rds [0, 1, 2, 3] rfl)
                        exact ⟨k4, by omega, (w64 (x4 + 1)), rfl, h20, H⟩
                    · replace H := ite_f c12 H
                      refine RJ.know (t := 102) rfl (congrArg Value.bool c12) ?_
                      refine RJ.run ttok 5 rfl ?_
                      refine RJ.fin [(3, .pointer (some ⟨b1, 0, none⟩)), (4, .pointer (some ⟨b2, 0, none⟩)), (5, .pointer (some ⟨b3, 0, none⟩)), (10, .int .i64 x4), (107, .bool false)] rfl ?_
                      refine J.condF rfl ?_
                      refine J.skip ?_
                      refine J.region ?_
                      refine RJ.run ttok 3 rfl ?_
                      refine RJ.fin [(3, .pointer (some ⟨b1, 0, none⟩)), (4, .pointer (some ⟨b2, 0, none⟩)), (5, .pointer (some ⟨b3, 0, none⟩)), (10, .int .i64 (w64 (x4 + 1)))] rfl ?_
                      have h21 := ((h19.only [1, 1, 1] rfl).rds [0, 1, 2, 3] rfl)
                      exact ⟨k4, by omega, (w64 (x4 + 1)), rfl, h21, H⟩
            · replace H := ite_f c8 H
              refine J.exit ?_
              refine J.seq ?_
              refine J.seq ?_
              refine J.region ?_
              refine RJ.run ttok 1 rfl ?_
              refine RJ.q rfl rfl (q_load_box ttok 2 (fun w e => e ▸ h15.wh) rfl rfl rfl rfl rfl) ?_
              refine RJ.run ttok 2 rfl ?_
              rcases Bool.eq_false_or_eq_true (decide (40 < a2.1)) with c14 | c14
              · replace H := ite_t c14 H
                refine RJ.know (t := 111) rfl (congrArg Value.bool c14) ?_
                refine RJ.run ttok 29 rfl ?_
                refine RJ.fin [(3, .pointer (some ⟨b1, 0, none⟩)), (4, .pointer (some ⟨b2, 0, none⟩)), (5, .pointer (some ⟨b3, 0, none⟩)), (140, .bool true)] rfl ?_
                refine J.condT rfl ?_
                refine J.seq ?_
                refine J.region ?_
                refine RJ.run ttok 1 rfl ?_
                refine RJ.fin [(6, .bool false)] rfl ?_
                refine J.ret ?_
                obtain rfl := Option.some.inj H
                exact ⟨_, _, _, (results_slots rfl), ⟨rfl, rfl⟩, h15.only [] rfl⟩
              · replace H := ite_f c14 H
                refine RJ.know (t := 111) rfl (congrArg Value.bool c14) ?_
                refine RJ.run ttok 1 rfl ?_
                refine RJ.q rfl rfl (q_load_box ttok 2 (fun w e => e ▸ h15.wh) rfl rfl rfl rfl rfl) ?_
                refine RJ.run ttok 4 rfl ?_
                rcases Bool.eq_false_or_eq_true (decide (0 < (a2.2.2.2.2.length : Int))) with c15 | c15
                · replace H := ite_t c15 H
                  refine RJ.know (t := 117) rfl (congrArg Value.bool c15) ?_
                  refine RJ.run ttok 23 rfl ?_
                  refine RJ.fin [(3, .pointer (some ⟨b1, 0, none⟩)), (4, .pointer (some ⟨b2, 0, none⟩)), (5, .pointer (some ⟨b3, 0, none⟩)), (140, .bool true)] rfl ?_
                  refine J.condT rfl ?_
                  refine J.seq ?_
                  refine J.region ?_
                  refine RJ.run ttok 1 rfl ?_
                  refine RJ.fin [(6, .bool false)] rfl ?_
                  refine J.ret ?_
                  obtain rfl := Option.some.inj H
                  exact ⟨_, _, _, (results_slots rfl), ⟨rfl, rfl⟩, h15.only [] rfl⟩
                · replace H := ite_f c15 H
                  refine RJ.know (t := 117) rfl (congrArg Value.bool c15) ?_
                  refine RJ.run ttok 1 rfl ?_
                  refine RJ.q rfl rfl (q_load_box ttok 2 (fun w e => e ▸ h15.wh) rfl rfl rfl rfl rfl) ?_
                  refine RJ.run ttok 4 rfl ?_
                  rcases Bool.eq_false_or_eq_true (decide ((a2.2.1.length : Int) < 1)) with c16 | c16
                  · replace H := ite_t c16 H
                    refine RJ.know (t := 123) rfl (congrArg Value.bool c16) ?_
                    refine RJ.run ttok 17 rfl ?_
                    refine RJ.fin [(3, .pointer (some ⟨b1, 0, none⟩)), (4, .pointer (some ⟨b2, 0, none⟩)), (5, .pointer (some ⟨b3, 0, none⟩)), (140, .bool true)] rfl ?_
                    refine J.condT rfl ?_
                    refine J.seq ?_
                    refine J.region ?_
                    refine RJ.run ttok 1 rfl ?_
                    refine RJ.fin [(6, .bool false)] rfl ?_
                    refine J.ret ?_
                    obtain rfl := Option.some.inj H
                    exact ⟨_, _, _, (results_slots rfl), ⟨rfl, rfl⟩, h15.only [] rfl⟩
                  · replace H := ite_f c16 H
                    refine RJ.know (t := 123) rfl (congrArg Value.bool c16) ?_
                    refine RJ.run ttok 1 rfl ?_
                    refine RJ.q rfl rfl (q_load_box ttok 2 (fun w e => e ▸ h15.wh) rfl rfl rfl rfl rfl) ?_
                    refine RJ.run ttok 2 rfl ?_
                    refine RJ.q rfl rfl (q_load_box ttok 0 (fun w e => e ▸ h15.wh) rfl rfl rfl rfl rfl) ?_
                    refine RJ.run ttok 3 rfl ?_
                    rcases Bool.eq_false_or_eq_true (decide (a0.2.2.2.1 < (a2.2.1.length : Int))) with c17 | c17
                    · replace H := ite_t c17 H
                      refine RJ.know (t := 131) rfl (congrArg Value.bool c17) ?_
                      refine RJ.run ttok 9 rfl ?_
                      refine RJ.fin [(3, .pointer (some ⟨b1, 0, none⟩)), (4, .pointer (some ⟨b2, 0, none⟩)), (5, .pointer (some ⟨b3, 0, none⟩)), (140, .bool true)] rfl ?_
                      refine J.condT rfl ?_
                      refine J.seq ?_
                      refine J.region ?_
                      refine RJ.run ttok 1 rfl ?_
                      refine RJ.fin [(6, .bool false)] rfl ?_
                      refine J.ret ?_
                      obtain rfl := Option.some.inj H
                      exact ⟨_, _, _, (results_slots rfl), ⟨rfl, rfl⟩, h15.only [] rfl⟩
                    · replace H := ite_f c17 H
                      refine RJ.know (t := 131) rfl (congrArg Value.bool c17) ?_
                      refine RJ.run ttok 1 rfl ?_
                      refine RJ.q rfl rfl (q_load_box ttok 2 (fun w e => e ▸ h15.wh) rfl rfl rfl rfl rfl) ?_
                      refine RJ.run ttok 3 rfl ?_
                      refine RJ.q rfl rfl (q_load_box ttok 2 (fun w e => e ▸ h15.wh) rfl rfl rfl rfl rfl) ?_
                      refine RJ.run ttok 3 rfl ?_
                      refine RJ.fin [(3, .pointer (some ⟨b1, 0, none⟩)), (4, .pointer (some ⟨b2, 0, none⟩)), (5, .pointer (some ⟨b3, 0, none⟩)), (140, .bool (!decide ((w64 ((a2.2.2.1.length : Int) + 1)) = (a2.2.1.length : Int))))] rfl ?_
                      refine J.cond rfl (fun c18 => ?_) (fun c18 => ?_)
                      · replace H := ite_t c18 H
                        refine J.seq ?_
                        refine J.region ?_
                        refine RJ.run ttok 1 rfl ?_
                        refine RJ.fin [(6, .bool false)] rfl ?_
                        refine J.ret ?_
                        obtain rfl := Option.some.inj H
                        exact ⟨_, _, _, (results_slots rfl), ⟨rfl, rfl⟩, h15.only [] rfl⟩
                      · replace H := ite_f c18 H
                        refine J.skip ?_
                        refine J.seq ?_
                        refine J.region ?_
                        refine RJ.run ttok 1 rfl ?_
                        refine RJ.q rfl rfl (q_load_box ttok 2 (fun w e => e ▸ h15.wh) rfl rfl rfl rfl rfl) ?_
                        refine RJ.q rfl rfl (q_load_box ttok 1 (fun w e => e ▸ h15.wh) rfl rfl rfl rfl rfl) ?_
                        obtain ⟨r4, q4, H⟩ := bind_t H
                        refine RJ.op rfl rfl (op_call [] (sluicegateref12_Right.spec q4) rfl rfl rfl h15 rfl (gcons (Gives.self 4 rfl) gnil)) ?_
                        rintro _ w13 ⟨_, ⟨rfl, rfl⟩, h22⟩
                        refine RJ.run ttok 1 rfl ?_
                        rcases Bool.eq_false_or_eq_true r4 with c19 | c19
                        · replace H := ite_t c19 H
                          refine RJ.know (t := 145) rfl (congrArg Value.bool c19) ?_
                          refine RJ.run ttok 1 rfl ?_
                          refine RJ.q rfl rfl (q_load_box ttok 2 (fun w e => e ▸ h22.wh) rfl rfl rfl rfl rfl) ?_
                          refine RJ.run ttok 2 rfl ?_
                          refine RJ.q rfl rfl (q_load_box ttok 0 (fun w e => e ▸ h22.wh) rfl rfl rfl rfl rfl) ?_
                          refine RJ.run ttok 3 rfl ?_
                          rcases Bool.eq_false_or_eq_true (decide ((a2.2.2.2.1.length : Int) ≤ a0.2.2.2.2.1)) with c20 | c20
                          · replace H := ite_t c20 H
                            refine RJ.know (t := 153) rfl (congrArg Value.bool c20) ?_
                            refine RJ.run ttok 1 rfl ?_
                            refine RJ.q rfl rfl (q_load_box ttok 2 (fun w e => e ▸ h22.wh) rfl rfl rfl rfl rfl) ?_
                            obtain ⟨r5, q5, H⟩ := bind_t H
                            refine RJ.op rfl rfl (op_call [] (sluicegateref10_Right.spec q5) rfl rfl rfl h22 rfl (gcons (Gives.self 5 rfl) gnil)) ?_
                            rintro _ w14 ⟨_, ⟨rfl, rfl⟩, h23⟩
                            refine RJ.run ttok 2 rfl ?_
                            refine RJ.fin [(6, .bool r5)] rfl ?_
                            refine J.ret ?_
                            obtain rfl := Option.some.inj H
                            exact ⟨_, _, _, (results_slots rfl), ⟨rfl, rfl⟩, h23.only [] rfl⟩
                          · replace H := ite_f c20 H
                            refine RJ.know (t := 153) rfl (congrArg Value.bool c20) ?_
                            refine RJ.run ttok 5 rfl ?_
                            refine RJ.fin [(6, .bool false)] rfl ?_
                            refine J.ret ?_
                            obtain rfl := Option.some.inj H
                            exact ⟨_, _, _, (results_slots rfl), ⟨rfl, rfl⟩, h22.only [] rfl⟩
                        · replace H := ite_f c19 H
                          refine RJ.know (t := 145) rfl (congrArg Value.bool c19) ?_
                          refine RJ.run ttok 13 rfl ?_
                          refine RJ.fin [(6, .bool false)] rfl ?_
                          refine J.ret ?_
                          obtain rfl := Option.some.inj H
                          exact ⟨_, _, _, (results_slots rfl), ⟨rfl, rfl⟩, h22.only [] rfl⟩

/-! sluicegate/sluicegateref13.Right -/
def sluicegateref13_Right.f (k : Nat) (a0 : Int × Int × Int × Int × Int × Int × Int × Int) (a1 : List UInt8 × List UInt8 × Bool) (a2 : Int × List (Int) × List (List UInt8) × (List (List UInt8 × Bool × List UInt8)) × (List (List UInt8 × List UInt8))) : Option (Bool) := if (decide (a2.1 = 0)) = true then ((sluicegateref13_outer.f k (a0.1, a0.2.1, a0.2.2.1, a0.2.2.2.1, a0.2.2.2.2.1, a0.2.2.2.2.2.1, a0.2.2.2.2.2.2.1, a0.2.2.2.2.2.2.2) (a1.1, a1.2.1, a1.2.2) (a2.1, a2.2.1, a2.2.2.1, a2.2.2.2.1, a2.2.2.2.2)).bind fun r1 => (some r1)) else (if (decide (0 < a2.1)) = true then ((sluicegateref13_inner.f k (a0.1, a0.2.1, a0.2.2.1, a0.2.2.2.1, a0.2.2.2.2.1, a0.2.2.2.2.2.1, a0.2.2.2.2.2.2.1, a0.2.2.2.2.2.2.2) (a1.1, a1.2.1, a1.2.2) (a2.1, a2.2.1, a2.2.2.1, a2.2.2.2.1, a2.2.2.2.2)).bind fun r2 => (some r2)) else (some false))
set_option maxRecDepth 20000 in
set_option maxHeartbeats 4000000 in
theorem sluicegateref13_Right.spec {k : Nat} {a0 : Int × Int × Int × Int × Int × Int × Int × Int} {a1 : List UInt8 × List UInt8 × Bool} {a2 : Int × List (Int) × List (List UInt8) × (List (List UInt8 × Bool × List UInt8)) × (List (List UInt8 × List UInt8))} {A1 : Option Addr} {c_1 : Nat} {A2 : Option Addr} {c_2 : Nat} {A3 : Option Addr} {c_3 : Nat} {A4 : Option Addr} {c_4 : Nat} {r : Bool} (H : sluicegateref13_Right.f k a0 a1 a2 = some r) :
    Spec Try.prog 27 [.agg #[.int .i64 a0.1, .int .i64 a0.2.1, .int .i64 a0.2.2.1, .int .i64 a0.2.2.2.1, .int .i64 a0.2.2.2.2.1, .int .i64 a0.2.2.2.2.2.1, .int .i64 a0.2.2.2.2.2.2.1, .int .i64 a0.2.2.2.2.2.2.2], .agg #[.string ⟨⟨a1.1⟩⟩, .string ⟨⟨a1.2.1⟩⟩, .bool a1.2.2], .agg #[.int .i64 a2.1, .slice A1 a2.2.1.length c_1, .slice A2 a2.2.2.1.length c_2, .slice A3 a2.2.2.2.1.length c_3, .slice A4 a2.2.2.2.2.length c_4]] [] [rdC 46 (.int .u32) a2.2.1 (.slice A1 a2.2.1.length c_1), rdC 9 .str a2.2.2.1 (.slice A2 a2.2.2.1.length c_2), rdC 48 (.pair .str (.pair .bool .str)) a2.2.2.2.1 (.slice A3 a2.2.2.2.1.length c_3), rdC 50 (.pair .str .str) a2.2.2.2.2 (.slice A4 a2.2.2.2.2.length c_4)] (fun v l => v = .bool r ∧ l = []) := by
  refine Spec.enter Try.func27 rfl (by kernel_rfl) (by kernel_rfl) fun w0 F0 h0 => ?_
  unfold sluicegateref13_Right.f at H
  refine J.seq ?_
  refine J.region ?_
  refine RJ.op rfl rfl (op_box rfl rfl h0) ?_
  rintro _ w1 ⟨b1, rfl, h1⟩
  refine RJ.op rfl rfl (op_box rfl rfl h1) ?_
  rintro _ w2 ⟨b2, rfl, h2⟩
  refine RJ.op rfl rfl (op_box rfl rfl h2) ?_
  rintro _ w3 ⟨b3, rfl, h3⟩
  refine RJ.run ttok 1 rfl ?_
  refine RJ.fin [(3, .pointer (some ⟨b1, 0, none⟩)), (4, .pointer (some ⟨b2, 0, none⟩)), (5, .pointer (some ⟨b3, 0, none⟩))] rfl ?_
  refine J.seq ?_
  refine J.seq ?_
  refine J.region ?_
  refine RJ.run ttok 1 rfl ?_
  refine RJ.q rfl rfl (q_load_box ttok 0 (fun w e => e ▸ h3.wh) rfl rfl rfl rfl rfl) ?_
  refine RJ.run ttok 1 rfl ?_
  refine RJ.fin [(3, .pointer (some ⟨b1, 0, none⟩)), (4, .pointer (some ⟨b2, 0, none⟩)), (5, .pointer (some ⟨b3, 0, none⟩)), (9, .bool (decide (a2.1 = 0)))] rfl ?_
  refine J.cond rfl (fun c1 => ?_) (fun c1 => ?_)
  · replace H := ite_t c1 H
    refine J.seq ?_
    refine J.region ?_
    refine RJ.q rfl rfl (q_load_box ttok 2 (fun w e => e ▸ h3.wh) rfl rfl rfl rfl rfl) ?_
    refine RJ.q rfl rfl (q_load_box ttok 1 (fun w e => e ▸ h3.wh) rfl rfl rfl rfl rfl) ?_
    refine RJ.q rfl rfl (q_load_box ttok 0 (fun w e => e ▸ h3.wh) rfl rfl rfl rfl rfl) ?_
    obtain ⟨r1, q1, H⟩ := bind_t H
    refine RJ.op rfl rfl (op_call [] (sluicegateref13_outer.spec q1) rfl rfl rfl h3 rfl (gcons (Gives.self 3 rfl) (gcons (Gives.self 4 rfl) (gcons (Gives.self 5 rfl) (gcons (Gives.self 6 rfl) gnil))))) ?_
    rintro _ w4 ⟨_, ⟨rfl, rfl⟩, h4⟩
    refine RJ.run ttok 1 rfl ?_
    refine RJ.fin [(6, .bool r1)] rfl ?_
    refine J.ret ?_
    obtain rfl := Option.some.inj H
    exact ⟨_, _, _, (results_slots rfl), ⟨rfl, rfl⟩, h4.only [] rfl⟩
  · replace H := ite_f c1 H
    refine J.skip ?_
    refine J.seq ?_
    refine J.region ?_
    refine RJ.run ttok 1 rfl ?_
    refine RJ.q rfl rfl (q_load_box ttok 0 (fun w e => e ▸ h3.wh) rfl rfl rfl rfl rfl) ?_
    refine RJ.run ttok 2 rfl ?_
    rcases Bool.eq_false_or_eq_true (decide (0 < a2.1)) with c2 | c2
    · replace H := ite_t c2 H
      refine RJ.know (t := 17) rfl (congrArg Value.bool c2) ?_
      refine RJ.q rfl rfl (q_load_box ttok 2 (fun w e => e ▸ h3.wh) rfl rfl rfl rfl rfl) ?_
      refine RJ.q rfl rfl (q_load_box ttok 1 (fun w e => e ▸ h3.wh) rfl rfl rfl rfl rfl) ?_
      refine RJ.q rfl rfl (q_load_box ttok 0 (fun w e => e ▸ h3.wh) rfl rfl rfl rfl rfl) ?_
      obtain ⟨r2, q2, H⟩ := bind_t H
      refine RJ.op rfl rfl (op_call [] (sluicegateref13_inner.spec q2) rfl rfl rfl h3 rfl (gcons (Gives.self 3 rfl) (gcons (Gives.self 4 rfl) (gcons (Gives.self 5 rfl) (gcons (Gives.self 6 rfl) gnil))))) ?_
      rintro _ w5 ⟨_, ⟨rfl, rfl⟩, h5⟩
      refine RJ.run ttok 2 rfl ?_
      refine RJ.fin [(6, .bool r2)] rfl ?_
      refine J.ret ?_
      obtain rfl := Option.some.inj H
      exact ⟨_, _, _, (results_slots rfl), ⟨rfl, rfl⟩, h5.only [] rfl⟩
    · replace H := ite_f c2 H
      refine RJ.know (t := 17) rfl (congrArg Value.bool c2) ?_
      refine RJ.run ttok 6 rfl ?_
      refine RJ.fin [(6, .bool false)] rfl ?_
      refine J.ret ?_
      obtain rfl := Option.some.inj H
      exact ⟨_, _, _, (results_slots rfl), ⟨rfl, rfl⟩, h3.only [] rfl⟩

/-! sluicegate/sluicegatelaw14.right -/
def sluicegatelaw14_right.f (k : Nat) (a0 : Int × Int × Int × Int × Int × Int × Int × Int) (a1 : List UInt8 × List UInt8 × Bool) (a2 : Int × List (Int) × List (List UInt8) × (List (List UInt8 × Bool × List UInt8)) × (List (List UInt8 × List UInt8))) : Option (Bool) := (sluicegatelaw13_Great.f k (a2.1, a2.2.1, a2.2.2.1, a2.2.2.2.1, a2.2.2.2.2)).bind fun r1 => (if (!r1) = true then (if (decide ((a1.1.length : Int) ≤ 200)) = true then (if (decide ((a1.2.1.length : Int) ≤ 200)) = true then ((sluicegateref09_Right.f k (a0.1, a0.2.1, a0.2.2.1, a0.2.2.2.1, a0.2.2.2.2.1, a0.2.2.2.2.2.1, a0.2.2.2.2.2.2.1, a0.2.2.2.2.2.2.2)).bind fun r2 => (if r2 = true then ((sluicegateref13_Right.f k (a0.1, a0.2.1, a0.2.2.1, a0.2.2.2.1, a0.2.2.2.2.1, a0.2.2.2.2.2.1, a0.2.2.2.2.2.2.1, a0.2.2.2.2.2.2.2) (a1.1, a1.2.1, a1.2.2) (a2.1, a2.2.1, a2.2.2.1, a2.2.2.2.1, a2.2.2.2.2)).bind fun r3 => (some r3)) else (some false))) else (some false)) else (some false)) else (some false))
set_option maxRecDepth 20000 in
set_option maxHeartbeats 4000000 in
theorem sluicegatelaw14_right.spec {k : Nat} {a0 : Int × Int × Int × Int × Int × Int × Int × Int} {a1 : List UInt8 × List UInt8 × Bool} {a2 : Int × List (Int) × List (List UInt8) × (List (List UInt8 × Bool × List UInt8)) × (List (List UInt8 × List UInt8))} {A1 : Option Addr} {c_1 : Nat} {A2 : Option Addr} {c_2 : Nat} {A3 : Option Addr} {c_3 : Nat} {A4 : Option Addr} {c_4 : Nat} {r : Bool} (H : sluicegatelaw14_right.f k a0 a1 a2 = some r) :
    Spec Try.prog 15 [.agg #[.int .i64 a0.1, .int .i64 a0.2.1, .int .i64 a0.2.2.1, .int .i64 a0.2.2.2.1, .int .i64 a0.2.2.2.2.1, .int .i64 a0.2.2.2.2.2.1, .int .i64 a0.2.2.2.2.2.2.1, .int .i64 a0.2.2.2.2.2.2.2], .agg #[.string ⟨⟨a1.1⟩⟩, .string ⟨⟨a1.2.1⟩⟩, .bool a1.2.2], .agg #[.int .i64 a2.1, .slice A1 a2.2.1.length c_1, .slice A2 a2.2.2.1.length c_2, .slice A3 a2.2.2.2.1.length c_3, .slice A4 a2.2.2.2.2.length c_4]] [] [rdC 46 (.int .u32) a2.2.1 (.slice A1 a2.2.1.length c_1), rdC 9 .str a2.2.2.1 (.slice A2 a2.2.2.1.length c_2), rdC 48 (.pair .str (.pair .bool .str)) a2.2.2.2.1 (.slice A3 a2.2.2.2.1.length c_3), rdC 50 (.pair .str .str) a2.2.2.2.2 (.slice A4 a2.2.2.2.2.length c_4)] (fun v l => v = .bool r ∧ l = []) := by
  refine Spec.enter Try.func15 rfl (by kernel_rfl) (by kernel_rfl) fun w0 F0 h0 => ?_
  unfold sluicegatelaw14_right.f at H
  refine J.seq ?_
  refine J.region ?_
  refine RJ.op rfl rfl (op_box rfl rfl h0) ?_
  rintro _ w1 ⟨b1, rfl, h1⟩
  refine RJ.op rfl rfl (op_box rfl rfl h1) ?_
  rintro _ w2 ⟨b2, rfl, h2⟩
  refine RJ.op rfl rfl (op_box rfl rfl h2) ?_
  rintro _ w3 ⟨b3, rfl, h3⟩
  refine RJ.run ttok 1 rfl ?_
  refine RJ.fin [(3, .pointer (some ⟨b1, 0, none⟩)), (4, .pointer (some ⟨b2, 0, none⟩)), (5, .pointer (some ⟨b3, 0, none⟩))] rfl ?_
  refine J.seq ?_
  refine J.region ?_
  refine RJ.q rfl rfl (q_load_box ttok 0 (fun w e => e ▸ h3.wh) rfl rfl rfl rfl rfl) ?_
  obtain ⟨r1, q1, H⟩ := bind_t H
  refine RJ.op rfl rfl (op_call [] (sluicegatelaw13_Great.spec q1) rfl rfl rfl h3 rfl (gcons (Gives.self 3 rfl) (gcons (Gives.self 4 rfl) (gcons (Gives.self 5 rfl) (gcons (Gives.self 6 rfl) gnil))))) ?_
  rintro _ w4 ⟨_, ⟨rfl, rfl⟩, h4⟩
  refine RJ.run ttok 2 rfl ?_
  rcases Bool.eq_false_or_eq_true (!r1) with c1 | c1
  · replace H := ite_t c1 H
    refine RJ.know (t := 10) rfl (congrArg Value.bool c1) ?_
    refine RJ.run ttok 1 rfl ?_
    refine RJ.q rfl rfl (q_load_box ttok 1 (fun w e => e ▸ h4.wh) rfl rfl rfl rfl rfl) ?_
    refine RJ.run ttok 4 rfl ?_
    rcases Bool.eq_false_or_eq_true (decide ((a1.1.length : Int) ≤ 200)) with c2 | c2
    · replace H := ite_t c2 H
      refine RJ.know (t := 16) rfl (congrArg Value.bool c2) ?_
      refine RJ.run ttok 1 rfl ?_
      refine RJ.q rfl rfl (q_load_box ttok 1 (fun w e => e ▸ h4.wh) rfl rfl rfl rfl rfl) ?_
      refine RJ.run ttok 4 rfl ?_
      rcases Bool.eq_false_or_eq_true (decide ((a1.2.1.length : Int) ≤ 200)) with c3 | c3
      · replace H := ite_t c3 H
        refine RJ.know (t := 22) rfl (congrArg Value.bool c3) ?_
        refine RJ.q rfl rfl (q_load_box ttok 2 (fun w e => e ▸ h4.wh) rfl rfl rfl rfl rfl) ?_
        obtain ⟨r2, q2, H⟩ := bind_t H
        refine RJ.op rfl rfl (op_call [] (sluicegateref09_Right.spec q2) rfl rfl rfl h4 rfl gnil) ?_
        rintro _ w5 ⟨_, ⟨rfl, rfl⟩, h5⟩
        refine RJ.run ttok 2 rfl ?_
        rcases Bool.eq_false_or_eq_true r2 with c4 | c4
        · replace H := ite_t c4 H
          refine RJ.know (t := 26) rfl (congrArg Value.bool c4) ?_
          refine RJ.q rfl rfl (q_load_box ttok 2 (fun w e => e ▸ h5.wh) rfl rfl rfl rfl rfl) ?_
          refine RJ.q rfl rfl (q_load_box ttok 1 (fun w e => e ▸ h5.wh) rfl rfl rfl rfl rfl) ?_
          refine RJ.q rfl rfl (q_load_box ttok 0 (fun w e => e ▸ h5.wh) rfl rfl rfl rfl rfl) ?_
          obtain ⟨r3, q3, H⟩ := bind_t H
          refine RJ.op rfl rfl (op_call [] (sluicegateref13_Right.spec q3) rfl rfl rfl h5 rfl (gcons (Gives.self 3 rfl) (gcons (Gives.self 4 rfl) (gcons (Gives.self 5 rfl) (gcons (Gives.self 6 rfl) gnil))))) ?_
          rintro _ w6 ⟨_, ⟨rfl, rfl⟩, h6⟩
          refine RJ.run ttok 2 rfl ?_
          refine RJ.fin [(6, .bool r3)] rfl ?_
          refine J.ret ?_
          obtain rfl := Option.some.inj H
          exact ⟨_, _, _, (results_slots rfl), ⟨rfl, rfl⟩, h6.only [] rfl⟩
        · replace H := ite_f c4 H
          refine RJ.know (t := 26) rfl (congrArg Value.bool c4) ?_
          refine RJ.run ttok 6 rfl ?_
          refine RJ.fin [(6, .bool false)] rfl ?_
          refine J.ret ?_
          obtain rfl := Option.some.inj H
          exact ⟨_, _, _, (results_slots rfl), ⟨rfl, rfl⟩, h5.only [] rfl⟩
      · replace H := ite_f c3 H
        refine RJ.know (t := 22) rfl (congrArg Value.bool c3) ?_
        refine RJ.run ttok 10 rfl ?_
        refine RJ.fin [(6, .bool false)] rfl ?_
        refine J.ret ?_
        obtain rfl := Option.some.inj H
        exact ⟨_, _, _, (results_slots rfl), ⟨rfl, rfl⟩, h4.only [] rfl⟩
    · replace H := ite_f c2 H
      refine RJ.know (t := 16) rfl (congrArg Value.bool c2) ?_
      refine RJ.run ttok 16 rfl ?_
      refine RJ.fin [(6, .bool false)] rfl ?_
      refine J.ret ?_
      obtain rfl := Option.some.inj H
      exact ⟨_, _, _, (results_slots rfl), ⟨rfl, rfl⟩, h4.only [] rfl⟩
  · replace H := ite_f c1 H
    refine RJ.know (t := 10) rfl (congrArg Value.bool c1) ?_
    refine RJ.run ttok 22 rfl ?_
    refine RJ.fin [(6, .bool false)] rfl ?_
    refine J.ret ?_
    obtain rfl := Option.some.inj H
    exact ⟨_, _, _, (results_slots rfl), ⟨rfl, rfl⟩, h4.only [] rfl⟩

/-! sluicegate/lex.Shared -/
def lex_Shared.l0 : Nat → (List UInt8) → (List UInt8) → (Int) → Option (Int)
  | 0, _, _, _ => none
  | k + 1, a0, a1, x1 => if (decide (x1 < (if (a1.length : Int) < (a0.length : Int) then (a1.length : Int) else (a0.length : Int)))) = true then (if 0 ≤ x1 ∧ x1 < (a0.length : Int) then (if 0 ≤ x1 ∧ x1 < (a1.length : Int) then (if (!decide ((gtb a0 x1) = (gtb a1 x1))) = true then (some x1) else (lex_Shared.l0 k a0 a1 (w64 (x1 + 1)))) else none) else none) else (some (if (a1.length : Int) < (a0.length : Int) then (a1.length : Int) else (a0.length : Int)))
def lex_Shared.f (k : Nat) (a0 : List UInt8) (a1 : List UInt8) : Option (Int) := lex_Shared.l0 k a0 a1 0
set_option maxRecDepth 20000 in
set_option maxHeartbeats 4000000 in
theorem lex_Shared.spec {k : Nat} {a0 : List UInt8} {a1 : List UInt8}  {r : Int} (H : lex_Shared.f k a0 a1 = some r) :
    Spec Try.prog 103 [.string ⟨⟨a0⟩⟩, .string ⟨⟨a1⟩⟩] [] [] (fun v l => v = .int .i64 r ∧ l = []) := by
  refine Spec.enter Try.func103 rfl (by kernel_rfl) (by kernel_rfl) fun w0 F0 h0 => ?_
  unfold lex_Shared.f at H
  refine J.seq ?_
  refine J.region ?_
  refine RJ.run ttok 1 rfl ?_
  refine RJ.fin [(0, .string ⟨⟨a0⟩⟩), (1, .string ⟨⟨a1⟩⟩)] rfl ?_
  refine J.seq ?_
  refine J.region ?_
  refine RJ.run ttok 6 rfl ?_
  refine RJ.fin [(0, .string ⟨⟨a0⟩⟩), (1, .string ⟨⟨a1⟩⟩), (5, .int .i64 (if (a1.length : Int) < (a0.length : Int) then (a1.length : Int) else (a0.length : Int)))] rfl ?_
  refine J.seq ?_
  refine J.seq ?_
  refine J.region ?_
  refine RJ.run ttok 2 rfl ?_
  refine RJ.fin [(0, .string ⟨⟨a0⟩⟩), (1, .string ⟨⟨a1⟩⟩), (5, .int .i64 (if (a1.length : Int) < (a0.length : Int) then (a1.length : Int) else (a0.length : Int))), (12, .int .i64 (if (a1.length : Int) < (a0.length : Int) then (a1.length : Int) else (a0.length : Int))), (13, .int .i64 0)] rfl ?_
  refine J.block ?_
  have h4 := ((h0.only [] rfl).rds [] rfl)
  refine J.loop (fun k env w => ∃ (x1 : Int), env = [(0, .string ⟨⟨a0⟩⟩), (1, .string ⟨⟨a1⟩⟩), (5, .int .i64 (if (a1.length : Int) < (a0.length : Int) then (a1.length : Int) else (a0.length : Int))), (12, .int .i64 (if (a1.length : Int) < (a0.length : Int) then (a1.length : Int) else (a0.length : Int))), (13, .int .i64 x1)] ∧ St w0 F0 [] [] w ∧ lex_Shared.l0 k a0 a1 x1 = some r) (k := k) ⟨0, rfl, h4, H⟩ ?_
  rintro k1 env w1 ⟨x1, rfl, h1, H⟩
  cases k1 with
  | zero => exact nomatch (show none = some r from H)
  | succ k1 =>
    rw [lex_Shared.l0] at H
    refine J.seq ?_
    refine J.region ?_
    refine RJ.run ttok 1 rfl ?_
    refine RJ.fin [(0, .string ⟨⟨a0⟩⟩), (1, .string ⟨⟨a1⟩⟩), (5, .int .i64 (if (a1.length : Int) < (a0.length : Int) then (a1.length : Int) else (a0.length : Int))), (12, .int .i64 (if (a1.length : Int) < (a0.length : Int) then (a1.length : Int) else (a0.length : Int))), (13, .int .i64 x1), (14, .bool (decide (x1 < (if (a1.length : Int) < (a0.length : Int) then (a1.length : Int) else (a0.length : Int)))))] rfl ?_
    refine J.seq ?_
    refine J.cond rfl (fun c1 => ?_) (fun c1 => ?_)
    · replace H := ite_t c1 H
      refine J.skip ?_
      refine J.seq ?_
      refine J.block ?_
      refine J.seq ?_
      refine J.region ?_
      refine RJ.run ttok 2 rfl ?_
      refine RJ.fin [(0, .string ⟨⟨a0⟩⟩), (1, .string ⟨⟨a1⟩⟩), (5, .int .i64 (if (a1.length : Int) < (a0.length : Int) then (a1.length : Int) else (a0.length : Int))), (6, .int .i64 x1), (12, .int .i64 (if (a1.length : Int) < (a0.length : Int) then (a1.length : Int) else (a0.length : Int))), (13, .int .i64 x1)] rfl ?_
      refine J.seq ?_
      refine J.heldSt mix h1 ?_
      have h2 := h1.drew
      refine HJ.run ttok rfl [0, 1, 3, 4] rfl ?_
      obtain ⟨⟨p1, p2⟩, H⟩ := guard_t H
      refine HJ.q (i := 2) rfl rfl rfl rfl rfl rfl (q_byte ttok rfl rfl rfl rfl p1 p2) ?_
      obtain ⟨⟨p3, p4⟩, H⟩ := guard_t H
      refine HJ.q (i := 5) rfl rfl rfl rfl rfl rfl (q_byte ttok rfl rfl rfl rfl p3 p4) ?_
      refine HJ.run ttok rfl [6] rfl ?_
      refine HJ.fin [(0, .string ⟨⟨a0⟩⟩), (1, .string ⟨⟨a1⟩⟩), (5, .int .i64 (if (a1.length : Int) < (a0.length : Int) then (a1.length : Int) else (a0.length : Int))), (6, .int .i64 x1), (12, .int .i64 (if (a1.length : Int) < (a0.length : Int) then (a1.length : Int) else (a0.length : Int))), (13, .int .i64 x1), (22, .bool (!decide ((gtb a0 x1) = (gtb a1 x1))))] rfl rfl ?_
      refine J.cond rfl (fun c2 => ?_) (fun c2 => ?_)
      · replace H := ite_t c2 H
        refine J.seq ?_
        refine J.region ?_
        refine RJ.run ttok 2 rfl ?_
        refine RJ.fin [(4, .int .i64 x1)] rfl ?_
        refine J.ret ?_
        obtain rfl := Option.some.inj H
        exact ⟨_, _, _, (results_slots rfl), ⟨rfl, rfl⟩, h2.only [] rfl⟩
      · replace H := ite_f c2 H
        refine J.skip ?_
        refine J.region ?_
        refine RJ.run ttok 2 rfl ?_
        refine RJ.fin [(0, .string ⟨⟨a0⟩⟩), (1, .string ⟨⟨a1⟩⟩), (5, .int .i64 (if (a1.length : Int) < (a0.length : Int) then (a1.length : Int) else (a0.length : Int))), (12, .int .i64 (if (a1.length : Int) < (a0.length : Int) then (a1.length : Int) else (a0.length : Int))), (13, .int .i64 (w64 (x1 + 1)))] rfl ?_
        have h3 := ((h2.only [] rfl).rds [] rfl)
        exact ⟨k1, by omega, (w64 (x1 + 1)), rfl, h3, H⟩
    · replace H := ite_f c1 H
      refine J.exit ?_
      refine J.seq ?_
      refine J.region ?_
      refine RJ.run ttok 2 rfl ?_
      refine RJ.fin [(4, .int .i64 (if (a1.length : Int) < (a0.length : Int) then (a1.length : Int) else (a0.length : Int)))] rfl ?_
      refine J.ret ?_
      obtain rfl := Option.some.inj H
      exact ⟨_, _, _, (results_slots rfl), ⟨rfl, rfl⟩, h1.only [] rfl⟩

/-! sluicegate/lex.Cut -/
def lex_Cut.f (k : Nat) (a0 : List UInt8) (a1 : List UInt8) : Option (List UInt8 × Bool) := if (!Op.bytesLess a0 a1) = true then (some (([] : List UInt8), false)) else ((lex_Shared.f k a0 a1).bind fun r1 => (if (0 : Int) ≤ (w64 (r1 + 1)) ∧ (w64 (r1 + 1)) ≤ (a1.length : Int) then (some ((a1.take ((w64 (r1 + 1))).toNat), true)) else none))
set_option maxRecDepth 20000 in
set_option maxHeartbeats 4000000 in
theorem lex_Cut.spec {k : Nat} {a0 : List UInt8} {a1 : List UInt8}  {r : List UInt8 × Bool} (H : lex_Cut.f k a0 a1 = some r) :
    Spec Try.prog 85 [.string ⟨⟨a0⟩⟩, .string ⟨⟨a1⟩⟩] [] [] (fun v l => v = .tuple #[.string ⟨⟨r.1⟩⟩, .bool r.2] ∧ l = []) := by
  refine Spec.enter Try.func85 rfl (by kernel_rfl) (by kernel_rfl) fun w0 F0 h0 => ?_
  unfold lex_Cut.f at H
  refine J.seq ?_
  refine J.region ?_
  refine RJ.run ttok 2 rfl ?_
  refine RJ.fin [(0, .string ⟨⟨a0⟩⟩), (1, .string ⟨⟨a1⟩⟩)] rfl ?_
  refine J.seq ?_
  refine J.seq ?_
  refine J.region ?_
  refine RJ.run ttok 3 rfl ?_
  refine RJ.fin [(0, .string ⟨⟨a0⟩⟩), (1, .string ⟨⟨a1⟩⟩), (8, .bool (!Op.bytesLess a0 a1))] rfl ?_
  refine J.cond rfl (fun c1 => ?_) (fun c1 => ?_)
  · replace H := ite_t c1 H
    refine J.seq ?_
    refine J.region ?_
    refine RJ.run ttok 2 rfl ?_
    refine RJ.fin [(4, .string ⟨⟨([] : List UInt8)⟩⟩), (5, .bool false)] rfl ?_
    refine J.ret ?_
    obtain rfl := Option.some.inj H
    exact ⟨_, _, _, (results_slots rfl), ⟨rfl, rfl⟩, h0.only [] rfl⟩
  · replace H := ite_f c1 H
    refine J.skip ?_
    refine J.seq ?_
    refine J.region ?_
    refine RJ.run ttok 3 rfl ?_
    obtain ⟨r1, q1, H⟩ := bind_t H
    refine RJ.op rfl rfl (op_call [] (lex_Shared.spec q1) rfl rfl rfl h0 rfl gnil) ?_
    rintro _ w1 ⟨_, ⟨rfl, rfl⟩, h1⟩
    refine RJ.run ttok 1 rfl ?_
    obtain ⟨⟨p1, p2⟩, H⟩ := guard_t H
    refine RJ.q rfl rfl (q_strcut (l := 0) (h := (w64 (r1 + 1))) ttok rfl rfl rfl rfl ⟨_, rfl⟩ (by decide) p1 p2 (cut_upto _ _)) ?_
    refine RJ.run ttok 2 rfl ?_
    refine RJ.fin [(4, .string ⟨⟨(a1.take ((w64 (r1 + 1))).toNat)⟩⟩), (5, .bool true)] rfl ?_
    refine J.ret ?_
    obtain rfl := Option.some.inj H
    exact ⟨_, _, _, (results_slots rfl), ⟨rfl, rfl⟩, h1.only [] rfl⟩

/-! slices.Clone[[]sluicegate/api.Pair,sluicegate/api.Pair] -/
def slices_Clone_api_Pair_api_Pair.f (a0 : List (List UInt8 × List UInt8)) : Option ((List (List UInt8 × List UInt8))) := if (([] : List (List UInt8 × List UInt8)).length + a0.length) * 32 ≤ 140737488355328 then (some (([] : List (List UInt8 × List UInt8)) ++ a0)) else none
set_option maxRecDepth 20000 in
set_option maxHeartbeats 4000000 in
theorem slices_Clone_api_Pair_api_Pair.spec {a0 : List (List UInt8 × List UInt8)} {A1 : Option Addr} {c_1 : Nat} {r : (List (List UInt8 × List UInt8))} (H : slices_Clone_api_Pair_api_Pair.f a0 = some r) :
    Spec Try.prog 66 [.slice A1 a0.length c_1] [] [rdC 50 (.pair .str .str) a0 (.slice A1 a0.length c_1)] (fun v l => ∃ (A_0 : Option Addr) (c_0 : Nat), v = .slice A_0 r.length c_0 ∧ l = [ownC 50 (.pair .str .str) r (.slice A_0 r.length c_0)]) := by
  refine Spec.enter Try.func66 rfl (by kernel_rfl) (by kernel_rfl) fun w0 F0 h0 => ?_
  unfold slices_Clone_api_Pair_api_Pair.f at H
  refine J.seq ?_
  refine J.region ?_
  refine RJ.run ttok 1 rfl ?_
  refine RJ.fin [(0, .slice A1 a0.length c_1)] rfl ?_
  refine J.seq ?_
  refine J.seq ?_
  refine J.region ?_
  refine RJ.run ttok 2 rfl ?_
  refine RJ.fin [(0, .slice A1 a0.length c_1), (4, .bool A1.isNone)] rfl ?_
  refine J.cond rfl (fun c1 => ?_) (fun c1 => ?_)
  · have e1 := h0.nilrow (Gives.self 0 rfl) (by simpa using c1)
    replace H : (some ([] : List (List UInt8 × List UInt8))) = some r := by rw [e1] at H; simpa using H
    refine J.seq ?_
    refine J.region ?_
    refine RJ.run ttok 1 rfl ?_
    refine RJ.fin [(2, .slice none ([] : List (List UInt8 × List UInt8)).length 0)] rfl ?_
    refine J.ret ?_
    have h1 := h0.addNil 50 (.pair .str .str)
    obtain rfl := Option.some.inj H
    exact ⟨_, _, _, (results_slots rfl), ⟨_, _, rfl, rfl⟩, h1.only [0] rfl⟩
  · refine J.skip ?_
    refine J.seq ?_
    refine J.region ?_
    refine RJ.op rfl rfl (op_lit ttok (.pair .str .str) rfl ([] : List (List UInt8 × List UInt8)) rfl h0 rfl rfl (by decide) rfl rfl rfl rfl rfl rfl rfl) ?_
    rintro _ w1 ⟨b1, rfl, h2⟩
    refine RJ.run ttok 1 rfl ?_
    obtain ⟨p1, H⟩ := guard_t H
    refine RJ.op rfl rfl (op_append ttok rfl 0 rfl h2 rfl (Gives.self 0 rfl) rfl rfl rfl rfl rfl rfl (by decide) (by decide) p1) ?_
    rintro _ w2 ⟨A2, c_2, rfl, h3⟩
    refine RJ.run ttok 1 rfl ?_
    refine RJ.fin [(2, .slice A2 (([] : List (List UInt8 × List UInt8)) ++ a0).length c_2)] rfl ?_
    refine J.ret ?_
    obtain rfl := Option.some.inj H
    exact ⟨_, _, _, (results_slots rfl), ⟨_, _, rfl, rfl⟩, h3.only [0] rfl⟩

/-! sluicegate/leaf.Halve -/
def leaf_Halve.f (k : Nat) (a0 : List (List UInt8 × List UInt8)) : Option ((List (List UInt8 × List UInt8)) × (List (List UInt8 × List UInt8)) × List UInt8 × Bool) := if (decide ((a0.length : Int) < 2)) = true then (some (([] : List (List UInt8 × List UInt8)), ([] : List (List UInt8 × List UInt8)), ([] : List UInt8), false)) else (if 0 ≤ (w64 ((w64 (Int.tdiv (w64 ((a0.length : Int) + 1)) 2)) - 1)) ∧ (w64 ((w64 (Int.tdiv (w64 ((a0.length : Int) + 1)) 2)) - 1)) < (a0.length : Int) then (if 0 ≤ (w64 (Int.tdiv (w64 ((a0.length : Int) + 1)) 2)) ∧ (w64 (Int.tdiv (w64 ((a0.length : Int) + 1)) 2)) < (a0.length : Int) then ((lex_Cut.f k ((gt a0 (w64 ((w64 (Int.tdiv (w64 ((a0.length : Int) + 1)) 2)) - 1))).1) ((gt a0 (w64 (Int.tdiv (w64 ((a0.length : Int) + 1)) 2))).1)).bind fun r1 => (if (0 : Int) ≤ (w64 (Int.tdiv (w64 ((a0.length : Int) + 1)) 2)) ∧ (w64 (Int.tdiv (w64 ((a0.length : Int) + 1)) 2)) ≤ (a0.length : Int) then (if 0 ≤ (w64 (Int.tdiv (w64 ((a0.length : Int) + 1)) 2)) ∧ (w64 (Int.tdiv (w64 ((a0.length : Int) + 1)) 2)) ≤ (a0.length : Int) then ((slices_Clone_api_Pair_api_Pair.f (a0.take ((w64 (Int.tdiv (w64 ((a0.length : Int) + 1)) 2))).toNat)).bind fun r2 => ((slices_Clone_api_Pair_api_Pair.f (a0.drop ((w64 (Int.tdiv (w64 ((a0.length : Int) + 1)) 2))).toNat)).bind fun r3 => (some (r2, r3, r1.1, true)))) else none) else none)) else none) else none)
set_option maxRecDepth 20000 in
set_option maxHeartbeats 4000000 in
theorem leaf_Halve.spec {k : Nat} {a0 : List (List UInt8 × List UInt8)} {A1 : Option Addr} {c_1 : Nat} {r : (List (List UInt8 × List UInt8)) × (List (List UInt8 × List UInt8)) × List UInt8 × Bool} (H : leaf_Halve.f k a0 = some r) :
    Spec Try.prog 50 [.slice A1 a0.length c_1] [] [rdC 50 (.pair .str .str) a0 (.slice A1 a0.length c_1)] (fun v l => ∃ (A_0 : Option Addr) (c_0 : Nat) (A_1 : Option Addr) (c_1 : Nat), v = .tuple #[.slice A_0 r.1.length c_0, .slice A_1 r.2.1.length c_1, .string ⟨⟨r.2.2.1⟩⟩, .bool r.2.2.2] ∧ l = [ownC 50 (.pair .str .str) r.1 (.slice A_0 r.1.length c_0), ownC 50 (.pair .str .str) r.2.1 (.slice A_1 r.2.1.length c_1)]) := by
  refine Spec.enter Try.func50 rfl (by kernel_rfl) (by kernel_rfl) fun w0 F0 h0 => ?_
  unfold leaf_Halve.f at H
  refine J.seq ?_
  refine J.region ?_
  refine RJ.run ttok 4 rfl ?_
  refine RJ.fin [(0, .slice A1 a0.length c_1)] rfl ?_
  refine J.seq ?_
  refine J.seq ?_
  refine J.region ?_
  refine RJ.run ttok 3 rfl ?_
  refine RJ.fin [(0, .slice A1 a0.length c_1), (9, .bool (decide ((a0.length : Int) < 2)))] rfl ?_
  refine J.cond rfl (fun c1 => ?_) (fun c1 => ?_)
  · replace H := ite_t c1 H
    refine J.seq ?_
    refine J.region ?_
    refine RJ.run ttok 4 rfl ?_
    refine RJ.fin [(2, .slice none ([] : List (List UInt8 × List UInt8)).length 0), (3, .slice none ([] : List (List UInt8 × List UInt8)).length 0), (4, .string ⟨⟨([] : List UInt8)⟩⟩), (5, .bool false)] rfl ?_
    refine J.ret ?_
    have h1 := h0.addNil 50 (.pair .str .str)
    have h2 := h1.addNil 50 (.pair .str .str)
    obtain rfl := Option.some.inj H
    exact ⟨_, _, _, (results_slots rfl), ⟨_, _, _, _, rfl, rfl⟩, h2.only [1, 0] rfl⟩
  · replace H := ite_f c1 H
    refine J.skip ?_
    refine J.seq ?_
    refine J.region ?_
    refine RJ.run ttok 5 rfl ?_
    refine RJ.fin [(0, .slice A1 a0.length c_1), (6, .int .i64 (w64 (Int.tdiv (w64 ((a0.length : Int) + 1)) 2)))] rfl ?_
    refine J.seq ?_
    refine J.heldSt mix h0 ?_
    have h3 := h0.drew
    refine HJ.run ttok rfl [0, 1, 2, 6, 7] rfl ?_
    obtain ⟨⟨p1, p2⟩, H⟩ := guard_t H
    have e1 := elem_A h3.wh (Gives.self 0 rfl) p1 p2
    refine HJ.q (i := 3) rfl rfl rfl rfl rfl rfl (q_index ttok rfl rfl rfl rfl rfl e1 p1 p2) ?_
    refine HJ.run ttok rfl [4] rfl ?_
    refine HJ.q (i := 5) rfl rfl rfl rfl rfl rfl (q_load_elem (f := 0) ttok rfl (fun w e => e) (Gives.self 0 rfl) p1 p2 rfl rfl rfl rfl rfl) ?_
    obtain ⟨⟨p3, p4⟩, H⟩ := guard_t H
    refine HJ.q (i := 8) rfl rfl rfl rfl rfl rfl (q_index ttok rfl rfl rfl rfl rfl e1 p3 p4) ?_
    refine HJ.run ttok rfl [9] rfl ?_
    refine HJ.q (i := 10) rfl rfl rfl rfl rfl rfl (q_load_elem (f := 0) ttok rfl (fun w e => e) (Gives.self 0 rfl) p3 p4 rfl rfl rfl rfl rfl) ?_
    obtain ⟨r1, q1, H⟩ := bind_t H
    refine HJ.op (i := 11) rfl rfl rfl rfl rfl (op_call [] (lex_Cut.spec q1) rfl rfl rfl h3 rfl gnil) ?_
    rintro _ w1 ⟨_, ⟨rfl, rfl⟩, h4⟩
    refine ⟨⟨[], h4⟩, ?_⟩
    refine HJ.run ttok rfl [12, 13, 14, 15] rfl ?_
    refine HJ.fin [(0, .slice A1 a0.length c_1), (4, .string ⟨⟨r1.1⟩⟩), (6, .int .i64 (w64 (Int.tdiv (w64 ((a0.length : Int) + 1)) 2)))] rfl rfl ?_
    refine J.seq ?_
    refine J.heldSt mix h4 ?_
    have h5 := h4.drew
    refine HJ.run ttok rfl [0, 1, 4, 5, 8] rfl ?_
    obtain ⟨⟨p5, p6⟩, H⟩ := guard_t H
    have e2 := h5.cap (Gives.self 0 rfl)
    refine HJ.q (i := 2) rfl rfl rfl rfl rfl rfl (q_cut0 (h := (w64 (Int.tdiv (w64 ((a0.length : Int) + 1)) 2))) (sub := (a0.take ((w64 (Int.tdiv (w64 ((a0.length : Int) + 1)) 2))).toNat)) ttok rfl rfl rfl rfl e2 ⟨_, rfl⟩ p5 p6 rfl) ?_
    obtain ⟨⟨p7, p8⟩, H⟩ := guard_t H
    have e3 := h5.cap (Gives.self 0 rfl)
    refine HJ.q (i := 6) rfl rfl rfl rfl rfl rfl (q_cut (l := (w64 (Int.tdiv (w64 ((a0.length : Int) + 1)) 2))) (h := (a0.length : Int)) (sub := (a0.drop ((w64 (Int.tdiv (w64 ((a0.length : Int) + 1)) 2))).toNat)) ttok rfl rfl rfl rfl e3 ⟨_, rfl⟩ rfl p7 p8 (Int.le_refl _) (cut_from _ _)) ?_
    obtain ⟨r2, q2, H⟩ := bind_t H
    refine HJ.op (i := 3) rfl rfl rfl rfl rfl (op_call [] (slices_Clone_api_Pair_api_Pair.spec q2) rfl rfl rfl h5 rfl (gcons ((Gives.self 0 rfl).trans (rd_cut0 (ty := (.pair .str .str)) (h := (w64 (Int.tdiv (w64 ((a0.length : Int) + 1)) 2))) (sub := (a0.take ((w64 (Int.tdiv (w64 ((a0.length : Int) + 1)) 2))).toNat)) p5 p6 rfl)) gnil)) ?_
    rintro _ w2 ⟨_, ⟨A2, c_2, rfl, rfl⟩, h6⟩
    refine ⟨⟨[_], h6⟩, ?_⟩
    obtain ⟨r3, q3, H⟩ := bind_t H
    refine HJ.op (i := 7) rfl rfl rfl rfl rfl (op_call [] (slices_Clone_api_Pair_api_Pair.spec q3) rfl rfl rfl h6 rfl (gcons ((Gives.self 1 rfl).trans (rd_cut (ty := (.pair .str .str)) (l := (w64 (Int.tdiv (w64 ((a0.length : Int) + 1)) 2))) (h := (a0.length : Int)) (sub := (a0.drop ((w64 (Int.tdiv (w64 ((a0.length : Int) + 1)) 2))).toNat)) rfl p7 p8 (Int.le_refl _) (cut_from _ _))) gnil)) ?_
    rintro _ w3 ⟨_, ⟨A3, c_3, rfl, rfl⟩, h7⟩
    refine ⟨⟨[_, _], h7⟩, ?_⟩
    refine HJ.run ttok rfl [9, 10, 11, 12] rfl ?_
    refine HJ.fin [(2, .slice A2 r2.length c_2), (3, .slice A3 r3.length c_3), (4, .string ⟨⟨r1.1⟩⟩), (5, .bool true)] rfl rfl ?_
    refine J.ret ?_
    obtain rfl := Option.some.inj H
    exact ⟨_, _, _, (results_slots rfl), ⟨_, _, _, _, rfl, rfl⟩, h7.only [1, 0] rfl⟩

/-! internal/bytealg.CompareString -/
def bytealg_CompareString.f (a0 : List UInt8) (a1 : List UInt8) : Option (Int) := some (scmp a0 a1)
set_option maxRecDepth 20000 in
set_option maxHeartbeats 4000000 in
theorem bytealg_CompareString.spec {a0 : List UInt8} {a1 : List UInt8}  {r : Int} (H : bytealg_CompareString.f a0 a1 = some r) :
    Spec Try.prog 116 [.string ⟨⟨a0⟩⟩, .string ⟨⟨a1⟩⟩] [] [] (fun v l => v = .int .i64 r ∧ l = []) := by
  refine Spec.enter Try.func116 rfl (by kernel_rfl) (by kernel_rfl) fun w0 F0 h0 => ?_
  unfold bytealg_CompareString.f at H
  refine J.seq ?_
  refine J.region ?_
  refine RJ.run ttok 1 rfl ?_
  refine RJ.fin [(0, .string ⟨⟨a0⟩⟩), (1, .string ⟨⟨a1⟩⟩)] rfl ?_
  refine J.seq ?_
  refine J.region ?_
  refine RJ.run ttok 2 rfl ?_
  refine RJ.q rfl rfl (q_cmpstr cmpstr rfl rfl rfl) ?_
  refine RJ.run ttok 1 rfl ?_
  refine RJ.fin [(4, .int .i64 (scmp a0 a1))] rfl ?_
  refine J.ret ?_
  obtain rfl := Option.some.inj H
  exact ⟨_, _, _, (results_slots rfl), ⟨rfl, rfl⟩, h0.only [] rfl⟩

/-! strings.Compare -/
def strings_Compare.f (a0 : List UInt8) (a1 : List UInt8) : Option (Int) := (bytealg_CompareString.f a0 a1).bind fun r1 => (some r1)
set_option maxRecDepth 20000 in
set_option maxHeartbeats 4000000 in
theorem strings_Compare.spec {a0 : List UInt8} {a1 : List UInt8}  {r : Int} (H : strings_Compare.f a0 a1 = some r) :
    Spec Try.prog 104 [.string ⟨⟨a0⟩⟩, .string ⟨⟨a1⟩⟩] [] [] (fun v l => v = .int .i64 r ∧ l = []) := by
  refine Spec.enter Try.func104 rfl (by kernel_rfl) (by kernel_rfl) fun w0 F0 h0 => ?_
  unfold strings_Compare.f at H
  refine J.seq ?_
  refine J.region ?_
  refine RJ.run ttok 1 rfl ?_
  refine RJ.fin [(0, .string ⟨⟨a0⟩⟩), (1, .string ⟨⟨a1⟩⟩)] rfl ?_
  refine J.seq ?_
  refine J.region ?_
  refine RJ.run ttok 2 rfl ?_
  obtain ⟨r1, q1, H⟩ := bind_t H
  refine RJ.op rfl rfl (op_call [] (bytealg_CompareString.spec q1) rfl rfl rfl h0 rfl gnil) ?_
  rintro _ w1 ⟨_, ⟨rfl, rfl⟩, h1⟩
  refine RJ.run ttok 1 rfl ?_
  refine RJ.fin [(4, .int .i64 r1)] rfl ?_
  refine J.ret ?_
  obtain rfl := Option.some.inj H
  exact ⟨_, _, _, (results_slots rfl), ⟨rfl, rfl⟩, h1.only [] rfl⟩

/-! sluicegate/lex.Compare -/
def lex_Compare.f (a0 : List UInt8) (a1 : List UInt8) : Option (Int) := (strings_Compare.f a0 a1).bind fun r1 => (some r1)
set_option maxRecDepth 20000 in
set_option maxHeartbeats 4000000 in
theorem lex_Compare.spec {a0 : List UInt8} {a1 : List UInt8}  {r : Int} (H : lex_Compare.f a0 a1 = some r) :
    Spec Try.prog 86 [.string ⟨⟨a0⟩⟩, .string ⟨⟨a1⟩⟩] [] [] (fun v l => v = .int .i64 r ∧ l = []) := by
  refine Spec.enter Try.func86 rfl (by kernel_rfl) (by kernel_rfl) fun w0 F0 h0 => ?_
  unfold lex_Compare.f at H
  refine J.seq ?_
  refine J.region ?_
  refine RJ.run ttok 1 rfl ?_
  refine RJ.fin [(0, .string ⟨⟨a0⟩⟩), (1, .string ⟨⟨a1⟩⟩)] rfl ?_
  refine J.seq ?_
  refine J.region ?_
  refine RJ.run ttok 2 rfl ?_
  obtain ⟨r1, q1, H⟩ := bind_t H
  refine RJ.op rfl rfl (op_call [] (strings_Compare.spec q1) rfl rfl rfl h0 rfl gnil) ?_
  rintro _ w1 ⟨_, ⟨rfl, rfl⟩, h1⟩
  refine RJ.run ttok 1 rfl ?_
  refine RJ.fin [(4, .int .i64 r1)] rfl ?_
  refine J.ret ?_
  obtain rfl := Option.some.inj H
  exact ⟨_, _, _, (results_slots rfl), ⟨rfl, rfl⟩, h1.only [] rfl⟩

/-! sluicegate/buf.compare -/
def buf_compare.f (a0 : List UInt8 × Bool × List UInt8) (a1 : List UInt8) : Option (Int) := (lex_Compare.f a0.1 a1).bind fun r1 => (some r1)
set_option maxRecDepth 20000 in
set_option maxHeartbeats 4000000 in
theorem buf_compare.spec {a0 : List UInt8 × Bool × List UInt8} {a1 : List UInt8}  {r : Int} (H : buf_compare.f a0 a1 = some r) :
    Spec Try.prog 95 [.agg #[.string ⟨⟨a0.1⟩⟩, .bool a0.2.1, .string ⟨⟨a0.2.2⟩⟩], .string ⟨⟨a1⟩⟩] [] [] (fun v l => v = .int .i64 r ∧ l = []) := by
  refine Spec.enter Try.func95 rfl (by kernel_rfl) (by kernel_rfl) fun w0 F0 h0 => ?_
  unfold buf_compare.f at H
  refine J.seq ?_
  refine J.region ?_
  refine RJ.op rfl rfl (op_box rfl rfl h0) ?_
  rintro _ w1 ⟨b1, rfl, h1⟩
  refine RJ.run ttok 1 rfl ?_
  refine RJ.fin [(1, .string ⟨⟨a1⟩⟩), (2, .pointer (some ⟨b1, 0, none⟩))] rfl ?_
  refine J.seq ?_
  refine J.region ?_
  refine RJ.run ttok 1 rfl ?_
  refine RJ.q rfl rfl (q_load_box ttok 0 (fun w e => e ▸ h1.wh) rfl rfl rfl rfl rfl) ?_
  refine RJ.run ttok 1 rfl ?_
  obtain ⟨r1, q1, H⟩ := bind_t H
  refine RJ.op rfl rfl (op_call [] (lex_Compare.spec q1) rfl rfl rfl h1 rfl gnil) ?_
  rintro _ w2 ⟨_, ⟨rfl, rfl⟩, h2⟩
  refine RJ.run ttok 1 rfl ?_
  refine RJ.fin [(4, .int .i64 r1)] rfl ?_
  refine J.ret ?_
  obtain rfl := Option.some.inj H
  exact ⟨_, _, _, (results_slots rfl), ⟨rfl, rfl⟩, h2.only [] rfl⟩

/-! slices.BinarySearchFunc[[]sluicegate/api.Msg,sluicegate/api.Msg,string] -/
def slices_BinarySearchFunc_api_Msg_api_Msg_string_buf_compare.l0 : Nat → (List (List UInt8 × Bool × List UInt8)) → (List UInt8) → (Int) → (Int) → Option (Int × Bool)
  | 0, _, _, _, _ => none
  | k + 1, a0, a1, x1, x2 => if (decide (x1 < x2)) = true then (if 0 ≤ (w64 ((Int.fdiv (IntKind.u64.wrap ((w64 (x1 + x2)))) (2 ^ 1)))) ∧ (w64 ((Int.fdiv (IntKind.u64.wrap ((w64 (x1 + x2)))) (2 ^ 1)))) < (a0.length : Int) then ((buf_compare.f ((gt a0 (w64 ((Int.fdiv (IntKind.u64.wrap ((w64 (x1 + x2)))) (2 ^ 1))))).1, (gt a0 (w64 ((Int.fdiv (IntKind.u64.wrap ((w64 (x1 + x2)))) (2 ^ 1))))).2.1, (gt a0 (w64 ((Int.fdiv (IntKind.u64.wrap ((w64 (x1 + x2)))) (2 ^ 1))))).2.2) a1).bind fun r1 => (if (decide (r1 < 0)) = true then (slices_BinarySearchFunc_api_Msg_api_Msg_string_buf_compare.l0 k a0 a1 (w64 ((w64 ((Int.fdiv (IntKind.u64.wrap ((w64 (x1 + x2)))) (2 ^ 1)))) + 1)) x2) else (slices_BinarySearchFunc_api_Msg_api_Msg_string_buf_compare.l0 k a0 a1 x1 (w64 ((Int.fdiv (IntKind.u64.wrap ((w64 (x1 + x2)))) (2 ^ 1))))))) else none) else (if (decide (x1 < (a0.length : Int))) = true then (if 0 ≤ x1 ∧ x1 < (a0.length : Int) then ((buf_compare.f ((gt a0 x1).1, (gt a0 x1).2.1, (gt a0 x1).2.2) a1).bind fun r2 => (some (x1, (decide (r2 = 0))))) else none) else (some (x1, false)))
def slices_BinarySearchFunc_api_Msg_api_Msg_string_buf_compare.f (k : Nat) (a0 : List (List UInt8 × Bool × List UInt8)) (a1 : List UInt8) : Option (Int × Bool) := slices_BinarySearchFunc_api_Msg_api_Msg_string_buf_compare.l0 k a0 a1 0 (a0.length : Int)
set_option maxRecDepth 20000 in
set_option maxHeartbeats 4000000 in
theorem slices_BinarySearchFunc_api_Msg_api_Msg_string_buf_compare.spec {k : Nat} {a0 : List (List UInt8 × Bool × List UInt8)} {a1 : List UInt8} {A1 : Option Addr} {c_1 : Nat} {r : Int × Bool} (H : slices_BinarySearchFunc_api_Msg_api_Msg_string_buf_compare.f k a0 a1 = some r) :
    Spec Try.prog 94 [.slice A1 a0.length c_1, .string ⟨⟨a1⟩⟩, .func (.func 95) #[] #[]] [] [rdC 48 (.pair .str (.pair .bool .str)) a0 (.slice A1 a0.length c_1)] (fun v l => v = .tuple #[.int .i64 r.1, .bool r.2] ∧ l = []) := by
  refine Spec.enter Try.func94 rfl (by kernel_rfl) (by kernel_rfl) fun w0 F0 h0 => ?_
  unfold slices_BinarySearchFunc_api_Msg_api_Msg_string_buf_compare.f at H
  refine J.seq ?_
  refine J.region ?_
  refine RJ.run ttok 2 rfl ?_
  refine RJ.fin [(0, .slice A1 a0.length c_1), (1, .string ⟨⟨a1⟩⟩), (2, .func (.func 95) #[] #[])] rfl ?_
  refine J.seq ?_
  refine J.region ?_
  refine RJ.run ttok 3 rfl ?_
  refine RJ.fin [(0, .slice A1 a0.length c_1), (1, .string ⟨⟨a1⟩⟩), (2, .func (.func 95) #[] #[]), (8, .int .i64 (a0.length : Int))] rfl ?_
  refine J.seq ?_
  refine J.region ?_
  refine RJ.run ttok 3 rfl ?_
  refine RJ.fin [(0, .slice A1 a0.length c_1), (1, .string ⟨⟨a1⟩⟩), (2, .func (.func 95) #[] #[]), (8, .int .i64 (a0.length : Int)), (9, .int .i64 0), (10, .int .i64 (a0.length : Int))] rfl ?_
  refine J.seq ?_
  refine J.block ?_
  have h6 := ((h0.only [] rfl).rds [0] rfl)
  refine J.loop (fun k env w => ∃ (x1 : Int) (x2 : Int), env = [(0, .slice A1 a0.length c_1), (1, .string ⟨⟨a1⟩⟩), (2, .func (.func 95) #[] #[]), (8, .int .i64 (a0.length : Int)), (9, .int .i64 x1), (10, .int .i64 x2)] ∧ St w0 F0 [] [rdC 48 (.pair .str (.pair .bool .str)) a0 (.slice A1 a0.length c_1)] w ∧ slices_BinarySearchFunc_api_Msg_api_Msg_string_buf_compare.l0 k a0 a1 x1 x2 = some r) (k := k) ⟨0, (a0.length : Int), rfl, h6, H⟩ ?_
  rintro k1 env w1 ⟨x1, x2, rfl, h1, H⟩
  cases k1 with
  | zero => exact nomatch (show none = some r from H)
  | succ k1 =>
    rw [slices_BinarySearchFunc_api_Msg_api_Msg_string_buf_compare.l0] at H
    refine J.seq ?_
    refine J.seq ?_
    refine J.region ?_
    refine RJ.run ttok 3 rfl ?_
    refine RJ.fin [(0, .slice A1 a0.length c_1), (1, .string ⟨⟨a1⟩⟩), (2, .func (.func 95) #[] #[]), (8, .int .i64 (a0.length : Int)), (9, .int .i64 x1), (10, .int .i64 x2), (17, .bool (decide (x1 < x2)))] rfl ?_
    refine J.cond rfl (fun c1 => ?_) (fun c1 => ?_)
    · replace H := ite_t c1 H
      refine J.skip ?_
      refine J.block ?_
      refine J.seq ?_
      refine J.region ?_
      refine RJ.run ttok 7 rfl ?_
      refine RJ.fin [(0, .slice A1 a0.length c_1), (1, .string ⟨⟨a1⟩⟩), (2, .func (.func 95) #[] #[]), (8, .int .i64 (a0.length : Int)), (9, .int .i64 x1), (10, .int .i64 x2), (11, .int .i64 (w64 ((Int.fdiv (IntKind.u64.wrap ((w64 (x1 + x2)))) (2 ^ 1)))))] rfl ?_
      refine J.seq ?_
      refine J.region ?_
      refine RJ.run ttok 3 rfl ?_
      obtain ⟨⟨p1, p2⟩, H⟩ := guard_t H
      have e1 := elem_A h1.wh (Gives.self 0 rfl) p1 p2
      refine RJ.q rfl rfl (q_index ttok rfl rfl rfl rfl rfl e1 p1 p2) ?_
      refine RJ.q rfl rfl (q_load_elem (f := 0) ttok rfl (fun w e => e ▸ h1.wh) (Gives.self 0 rfl) p1 p2 rfl rfl rfl rfl rfl) ?_
      refine RJ.run ttok 1 rfl ?_
      obtain ⟨r1, q1, H⟩ := bind_t H
      refine RJ.op rfl rfl (op_call [] (buf_compare.spec q1) rfl rfl rfl h1 rfl gnil) ?_
      rintro _ w2 ⟨_, ⟨rfl, rfl⟩, h2⟩
      refine RJ.run ttok 1 rfl ?_
      refine RJ.fin [(0, .slice A1 a0.length c_1), (1, .string ⟨⟨a1⟩⟩), (2, .func (.func 95) #[] #[]), (8, .int .i64 (a0.length : Int)), (9, .int .i64 x1), (10, .int .i64 x2), (11, .int .i64 (w64 ((Int.fdiv (IntKind.u64.wrap ((w64 (x1 + x2)))) (2 ^ 1))))), (31, .bool (decide (r1 < 0)))] rfl ?_
      refine J.cond rfl (fun c2 => ?_) (fun c2 => ?_)
      · replace H := ite_t c2 H
        refine J.region ?_
        refine RJ.run ttok 3 rfl ?_
        refine RJ.fin [(0, .slice A1 a0.length c_1), (1, .string ⟨⟨a1⟩⟩), (2, .func (.func 95) #[] #[]), (8, .int .i64 (a0.length : Int)), (9, .int .i64 (w64 ((w64 ((Int.fdiv (IntKind.u64.wrap ((w64 (x1 + x2)))) (2 ^ 1)))) + 1))), (10, .int .i64 x2)] rfl ?_
        have h3 := ((h2.only [] rfl).rds [0] rfl)
        exact ⟨k1, by omega, (w64 ((w64 ((Int.fdiv (IntKind.u64.wrap ((w64 (x1 + x2)))) (2 ^ 1)))) + 1)), x2, rfl, h3, H⟩
      · replace H := ite_f c2 H
        refine J.region ?_
        refine RJ.run ttok 2 rfl ?_
        refine RJ.fin [(0, .slice A1 a0.length c_1), (1, .string ⟨⟨a1⟩⟩), (2, .func (.func 95) #[] #[]), (8, .int .i64 (a0.length : Int)), (9, .int .i64 x1), (10, .int .i64 (w64 ((Int.fdiv (IntKind.u64.wrap ((w64 (x1 + x2)))) (2 ^ 1)))))] rfl ?_
        have h4 := ((h2.only [] rfl).rds [0] rfl)
        exact ⟨k1, by omega, x1, (w64 ((Int.fdiv (IntKind.u64.wrap ((w64 (x1 + x2)))) (2 ^ 1)))), rfl, h4, H⟩
    · replace H := ite_f c1 H
      refine J.exit ?_
      refine J.seq ?_
      refine J.region ?_
      refine RJ.run ttok 5 rfl ?_
      rcases Bool.eq_false_or_eq_true (decide (x1 < (a0.length : Int))) with c3 | c3
      · replace H := ite_t c3 H
        refine RJ.know (t := 39) rfl (congrArg Value.bool c3) ?_
        refine RJ.run ttok 3 rfl ?_
        obtain ⟨⟨p3, p4⟩, H⟩ := guard_t H
        have e2 := elem_A h1.wh (Gives.self 0 rfl) p3 p4
        refine RJ.q rfl rfl (q_index ttok rfl rfl rfl rfl rfl e2 p3 p4) ?_
        refine RJ.q rfl rfl (q_load_elem (f := 0) ttok rfl (fun w e => e ▸ h1.wh) (Gives.self 0 rfl) p3 p4 rfl rfl rfl rfl rfl) ?_
        refine RJ.run ttok 1 rfl ?_
        obtain ⟨r2, q2, H⟩ := bind_t H
        refine RJ.op rfl rfl (op_call [] (buf_compare.spec q2) rfl rfl rfl h1 rfl gnil) ?_
        rintro _ w3 ⟨_, ⟨rfl, rfl⟩, h5⟩
        refine RJ.run ttok 4 rfl ?_
        refine RJ.fin [(6, .int .i64 x1), (7, .bool (decide (r2 = 0)))] rfl ?_
        refine J.ret ?_
        obtain rfl := Option.some.inj H
        exact ⟨_, _, _, (results_slots rfl), ⟨rfl, rfl⟩, h5.only [] rfl⟩
      · replace H := ite_f c3 H
        refine RJ.know (t := 39) rfl (congrArg Value.bool c3) ?_
        refine RJ.run ttok 11 rfl ?_
        refine RJ.fin [(6, .int .i64 x1), (7, .bool false)] rfl ?_
        refine J.ret ?_
        obtain rfl := Option.some.inj H
        exact ⟨_, _, _, (results_slots rfl), ⟨rfl, rfl⟩, h1.only [] rfl⟩

/-! slices.Clone[[]sluicegate/api.Msg,sluicegate/api.Msg] -/
def slices_Clone_api_Msg_api_Msg.f (a0 : List (List UInt8 × Bool × List UInt8)) : Option ((List (List UInt8 × Bool × List UInt8))) := if (([] : List (List UInt8 × Bool × List UInt8)).length + a0.length) * 40 ≤ 140737488355328 then (some (([] : List (List UInt8 × Bool × List UInt8)) ++ a0)) else none
set_option maxRecDepth 20000 in
set_option maxHeartbeats 4000000 in
theorem slices_Clone_api_Msg_api_Msg.spec {a0 : List (List UInt8 × Bool × List UInt8)} {A1 : Option Addr} {c_1 : Nat} {r : (List (List UInt8 × Bool × List UInt8))} (H : slices_Clone_api_Msg_api_Msg.f a0 = some r) :
    Spec Try.prog 65 [.slice A1 a0.length c_1] [] [rdC 48 (.pair .str (.pair .bool .str)) a0 (.slice A1 a0.length c_1)] (fun v l => ∃ (A_0 : Option Addr) (c_0 : Nat), v = .slice A_0 r.length c_0 ∧ l = [ownC 48 (.pair .str (.pair .bool .str)) r (.slice A_0 r.length c_0)]) := by
  refine Spec.enter Try.func65 rfl (by kernel_rfl) (by kernel_rfl) fun w0 F0 h0 => ?_
  unfold slices_Clone_api_Msg_api_Msg.f at H
  refine J.seq ?_
  refine J.region ?_
  refine RJ.run ttok 1 rfl ?_
  refine RJ.fin [(0, .slice A1 a0.length c_1)] rfl ?_
  refine J.seq ?_
  refine J.seq ?_
  refine J.region ?_
  refine RJ.run ttok 2 rfl ?_
  refine RJ.fin [(0, .slice A1 a0.length c_1), (4, .bool A1.isNone)] rfl ?_
  refine J.cond rfl (fun c1 => ?_) (fun c1 => ?_)
  · have e1 := h0.nilrow (Gives.self 0 rfl) (by simpa using c1)
    replace H : (some ([] : List (List UInt8 × Bool × List UInt8))) = some r := by rw [e1] at H; simpa using H
    refine J.seq ?_
    refine J.region ?_
    refine RJ.run ttok 1 rfl ?_
    refine RJ.fin [(2, .slice none ([] : List (List UInt8 × Bool × List UInt8)).length 0)] rfl ?_
    refine J.ret ?_
    have h1 := h0.addNil 48 (.pair .str (.pair .bool .str))
    obtain rfl := Option.some.inj H
    exact ⟨_, _, _, (results_slots rfl), ⟨_, _, rfl, rfl⟩, h1.only [0] rfl⟩
  · refine J.skip ?_
    refine J.seq ?_
    refine J.region ?_
    refine RJ.op rfl rfl (op_lit ttok (.pair .str (.pair .bool .str)) rfl ([] : List (List UInt8 × Bool × List UInt8)) rfl h0 rfl rfl (by decide) rfl rfl rfl rfl rfl rfl rfl) ?_
    rintro _ w1 ⟨b1, rfl, h2⟩
    refine RJ.run ttok 1 rfl ?_
    obtain ⟨p1, H⟩ := guard_t H
    refine RJ.op rfl rfl (op_append ttok rfl 0 rfl h2 rfl (Gives.self 0 rfl) rfl rfl rfl rfl rfl rfl (by decide) (by decide) p1) ?_
    rintro _ w2 ⟨A2, c_2, rfl, h3⟩
    refine RJ.run ttok 1 rfl ?_
    refine RJ.fin [(2, .slice A2 (([] : List (List UInt8 × Bool × List UInt8)) ++ a0).length c_2)] rfl ?_
    refine J.ret ?_
    obtain rfl := Option.some.inj H
    exact ⟨_, _, _, (results_slots rfl), ⟨_, _, rfl, rfl⟩, h3.only [0] rfl⟩

/-! sluicegate/buf.Split -/
def buf_Split.f (k : Nat) (a0 : List (List UInt8 × Bool × List UInt8)) (a1 : List UInt8) : Option ((List (List UInt8 × Bool × List UInt8)) × (List (List UInt8 × Bool × List UInt8))) := (slices_BinarySearchFunc_api_Msg_api_Msg_string_buf_compare.f k a0 a1).bind fun r1 => (if (0 : Int) ≤ r1.1 ∧ r1.1 ≤ (a0.length : Int) then (if 0 ≤ r1.1 ∧ r1.1 ≤ (a0.length : Int) then ((slices_Clone_api_Msg_api_Msg.f (a0.take (r1.1).toNat)).bind fun r2 => ((slices_Clone_api_Msg_api_Msg.f (a0.drop (r1.1).toNat)).bind fun r3 => (some (r2, r3)))) else none) else none)
set_option maxRecDepth 20000 in
set_option maxHeartbeats 4000000 in
theorem buf_Split.spec {k : Nat} {a0 : List (List UInt8 × Bool × List UInt8)} {a1 : List UInt8} {A1 : Option Addr} {c_1 : Nat} {r : (List (List UInt8 × Bool × List UInt8)) × (List (List UInt8 × Bool × List UInt8))} (H : buf_Split.f k a0 a1 = some r) :
    Spec Try.prog 58 [.slice A1 a0.length c_1, .string ⟨⟨a1⟩⟩] [] [rdC 48 (.pair .str (.pair .bool .str)) a0 (.slice A1 a0.length c_1)] (fun v l => ∃ (A_0 : Option Addr) (c_0 : Nat) (A_1 : Option Addr) (c_1 : Nat), v = .tuple #[.slice A_0 r.1.length c_0, .slice A_1 r.2.length c_1] ∧ l = [ownC 48 (.pair .str (.pair .bool .str)) r.1 (.slice A_0 r.1.length c_0), ownC 48 (.pair .str (.pair .bool .str)) r.2 (.slice A_1 r.2.length c_1)]) := by
  refine Spec.enter Try.func58 rfl (by kernel_rfl) (by kernel_rfl) fun w0 F0 h0 => ?_
  unfold buf_Split.f at H
  refine J.seq ?_
  refine J.region ?_
  refine RJ.run ttok 2 rfl ?_
  refine RJ.fin [(0, .slice A1 a0.length c_1), (1, .string ⟨⟨a1⟩⟩)] rfl ?_
  refine J.seq ?_
  refine J.region ?_
  refine RJ.run ttok 2 rfl ?_
  obtain ⟨r1, q1, H⟩ := bind_t H
  refine RJ.op rfl rfl (op_call [] (slices_BinarySearchFunc_api_Msg_api_Msg_string_buf_compare.spec q1) rfl rfl rfl h0 rfl (gcons (Gives.self 0 rfl) gnil)) ?_
  rintro _ w1 ⟨_, ⟨rfl, rfl⟩, h1⟩
  refine RJ.run ttok 5 rfl ?_
  refine RJ.fin [(0, .slice A1 a0.length c_1), (6, .int .i64 r1.1)] rfl ?_
  refine J.seq ?_
  refine J.heldSt mix h1 ?_
  have h2 := h1.drew
  refine HJ.run ttok rfl [0, 1, 4, 5] rfl ?_
  obtain ⟨⟨p1, p2⟩, H⟩ := guard_t H
  have e1 := h2.cap (Gives.self 0 rfl)
  refine HJ.q (i := 2) rfl rfl rfl rfl rfl rfl (q_cut0 (h := r1.1) (sub := (a0.take (r1.1).toNat)) ttok rfl rfl rfl rfl e1 ⟨_, rfl⟩ p1 p2 rfl) ?_
  obtain ⟨⟨p3, p4⟩, H⟩ := guard_t H
  have e2 := h2.cap (Gives.self 0 rfl)
  refine HJ.q (i := 6) rfl rfl rfl rfl rfl rfl (q_cut (l := r1.1) (h := (a0.length : Int)) (sub := (a0.drop (r1.1).toNat)) ttok rfl rfl rfl rfl e2 ⟨_, rfl⟩ rfl p3 p4 (Int.le_refl _) (cut_from _ _)) ?_
  obtain ⟨r2, q2, H⟩ := bind_t H
  refine HJ.op (i := 3) rfl rfl rfl rfl rfl (op_call [] (slices_Clone_api_Msg_api_Msg.spec q2) rfl rfl rfl h2 rfl (gcons ((Gives.self 0 rfl).trans (rd_cut0 (ty := (.pair .str (.pair .bool .str))) (h := r1.1) (sub := (a0.take (r1.1).toNat)) p1 p2 rfl)) gnil)) ?_
  rintro _ w2 ⟨_, ⟨A2, c_2, rfl, rfl⟩, h3⟩
  refine ⟨⟨[_], h3⟩, ?_⟩
  obtain ⟨r3, q3, H⟩ := bind_t H
  refine HJ.op (i := 7) rfl rfl rfl rfl rfl (op_call [] (slices_Clone_api_Msg_api_Msg.spec q3) rfl rfl rfl h3 rfl (gcons ((Gives.self 1 rfl).trans (rd_cut (ty := (.pair .str (.pair .bool .str))) (l := r1.1) (h := (a0.length : Int)) (sub := (a0.drop (r1.1).toNat)) rfl p3 p4 (Int.le_refl _) (cut_from _ _))) gnil)) ?_
  rintro _ w3 ⟨_, ⟨A3, c_3, rfl, rfl⟩, h4⟩
  refine ⟨⟨[_, _], h4⟩, ?_⟩
  refine HJ.run ttok rfl [8, 9] rfl ?_
  refine HJ.fin [(4, .slice A2 r2.length c_2), (5, .slice A3 r3.length c_3)] rfl rfl ?_
  refine J.ret ?_
  obtain rfl := Option.some.inj H
  exact ⟨_, _, _, (results_slots rfl), ⟨_, _, _, _, rfl, rfl⟩, h4.only [1, 0] rfl⟩

/-! slices.Clone[[]uint32,uint32] -/
def slices_Clone_uint32_uint32.f (a0 : List (Int)) : Option (List (Int)) := if (([] : List (Int)).length + a0.length) * 4 ≤ 140737488355328 then (some (([] : List (Int)) ++ a0)) else none
set_option maxRecDepth 20000 in
set_option maxHeartbeats 4000000 in
theorem slices_Clone_uint32_uint32.spec {a0 : List (Int)} {A1 : Option Addr} {c_1 : Nat} {r : List (Int)} (H : slices_Clone_uint32_uint32.f a0 = some r) :
    Spec Try.prog 59 [.slice A1 a0.length c_1] [] [rdC 46 (.int .u32) a0 (.slice A1 a0.length c_1)] (fun v l => ∃ (A_0 : Option Addr) (c_0 : Nat), v = .slice A_0 r.length c_0 ∧ l = [ownC 46 (.int .u32) r (.slice A_0 r.length c_0)]) := by
  refine Spec.enter Try.func59 rfl (by kernel_rfl) (by kernel_rfl) fun w0 F0 h0 => ?_
  unfold slices_Clone_uint32_uint32.f at H
  refine J.seq ?_
  refine J.region ?_
  refine RJ.run ttok 1 rfl ?_
  refine RJ.fin [(0, .slice A1 a0.length c_1)] rfl ?_
  refine J.seq ?_
  refine J.seq ?_
  refine J.region ?_
  refine RJ.run ttok 2 rfl ?_
  refine RJ.fin [(0, .slice A1 a0.length c_1), (4, .bool A1.isNone)] rfl ?_
  refine J.cond rfl (fun c1 => ?_) (fun c1 => ?_)
  · have e1 := h0.nilrow (Gives.self 0 rfl) (by simpa using c1)
    replace H : (some ([] : List (Int))) = some r := by rw [e1] at H; simpa using H
    refine J.seq ?_
    refine J.region ?_
    refine RJ.run ttok 1 rfl ?_
    refine RJ.fin [(2, .slice none ([] : List (Int)).length 0)] rfl ?_
    refine J.ret ?_
    have h1 := h0.addNil 46 (.int .u32)
    obtain rfl := Option.some.inj H
    exact ⟨_, _, _, (results_slots rfl), ⟨_, _, rfl, rfl⟩, h1.only [0] rfl⟩
  · refine J.skip ?_
    refine J.seq ?_
    refine J.region ?_
    refine RJ.op rfl rfl (op_lit ttok (.int .u32) rfl ([] : List (Int)) rfl h0 rfl rfl (by decide) rfl rfl rfl rfl rfl rfl rfl) ?_
    rintro _ w1 ⟨b1, rfl, h2⟩
    refine RJ.run ttok 1 rfl ?_
    obtain ⟨p1, H⟩ := guard_t H
    refine RJ.op rfl rfl (op_append ttok rfl 0 rfl h2 rfl (Gives.self 0 rfl) rfl rfl rfl rfl rfl rfl (by decide) (by decide) p1) ?_
    rintro _ w2 ⟨A2, c_2, rfl, h3⟩
    refine RJ.run ttok 1 rfl ?_
    refine RJ.fin [(2, .slice A2 (([] : List (Int)) ++ a0).length c_2)] rfl ?_
    refine J.ret ?_
    obtain rfl := Option.some.inj H
    exact ⟨_, _, _, (results_slots rfl), ⟨_, _, rfl, rfl⟩, h3.only [0] rfl⟩

/-! slices.Clone[[]string,string] -/
def slices_Clone_string_string.f (a0 : List (List UInt8)) : Option (List (List UInt8)) := if (([] : List (List UInt8)).length + a0.length) * 16 ≤ 140737488355328 then (some (([] : List (List UInt8)) ++ a0)) else none
set_option maxRecDepth 20000 in
set_option maxHeartbeats 4000000 in
theorem slices_Clone_string_string.spec {a0 : List (List UInt8)} {A1 : Option Addr} {c_1 : Nat} {r : List (List UInt8)} (H : slices_Clone_string_string.f a0 = some r) :
    Spec Try.prog 60 [.slice A1 a0.length c_1] [] [rdC 9 .str a0 (.slice A1 a0.length c_1)] (fun v l => ∃ (A_0 : Option Addr) (c_0 : Nat), v = .slice A_0 r.length c_0 ∧ l = [ownC 9 .str r (.slice A_0 r.length c_0)]) := by
  refine Spec.enter Try.func60 rfl (by kernel_rfl) (by kernel_rfl) fun w0 F0 h0 => ?_
  unfold slices_Clone_string_string.f at H
  refine J.seq ?_
  refine J.region ?_
  refine RJ.run ttok 1 rfl ?_
  refine RJ.fin [(0, .slice A1 a0.length c_1)] rfl ?_
  refine J.seq ?_
  refine J.seq ?_
  refine J.region ?_
  refine RJ.run ttok 2 rfl ?_
  refine RJ.fin [(0, .slice A1 a0.length c_1), (4, .bool A1.isNone)] rfl ?_
  refine J.cond rfl (fun c1 => ?_) (fun c1 => ?_)
  · have e1 := h0.nilrow (Gives.self 0 rfl) (by simpa using c1)
    replace H : (some ([] : List (List UInt8))) = some r := by rw [e1] at H; simpa using H
    refine J.seq ?_
    refine J.region ?_
    refine RJ.run ttok 1 rfl ?_
    refine RJ.fin [(2, .slice none ([] : List (List UInt8)).length 0)] rfl ?_
    refine J.ret ?_
    have h1 := h0.addNil 9 .str
    obtain rfl := Option.some.inj H
    exact ⟨_, _, _, (results_slots rfl), ⟨_, _, rfl, rfl⟩, h1.only [0] rfl⟩
  · refine J.skip ?_
    refine J.seq ?_
    refine J.region ?_
    refine RJ.op rfl rfl (op_lit ttok .str rfl ([] : List (List UInt8)) rfl h0 rfl rfl (by decide) rfl rfl rfl rfl rfl rfl rfl) ?_
    rintro _ w1 ⟨b1, rfl, h2⟩
    refine RJ.run ttok 1 rfl ?_
    obtain ⟨p1, H⟩ := guard_t H
    refine RJ.op rfl rfl (op_append ttok rfl 0 rfl h2 rfl (Gives.self 0 rfl) rfl rfl rfl rfl rfl rfl (by decide) (by decide) p1) ?_
    rintro _ w2 ⟨A2, c_2, rfl, h3⟩
    refine RJ.run ttok 1 rfl ?_
    refine RJ.fin [(2, .slice A2 (([] : List (List UInt8)) ++ a0).length c_2)] rfl ?_
    refine J.ret ?_
    obtain rfl := Option.some.inj H
    exact ⟨_, _, _, (results_slots rfl), ⟨_, _, rfl, rfl⟩, h3.only [0] rfl⟩

/-! sluicegate/cleave.Halve -/
def cleave_Halve.f (k : Nat) (a0 : Int × List (Int) × List (List UInt8) × (List (List UInt8 × Bool × List UInt8)) × (List (List UInt8 × List UInt8))) : Option ((Int × List (Int) × List (List UInt8) × (List (List UInt8 × Bool × List UInt8)) × (List (List UInt8 × List UInt8))) × (Int × List (Int) × List (List UInt8) × (List (List UInt8 × Bool × List UInt8)) × (List (List UInt8 × List UInt8))) × List UInt8 × Bool) := if (decide (a0.1 = 0)) = true then ((leaf_Halve.f k a0.2.2.2.2).bind fun r1 => (some ((0, ([] : List (Int)), ([] : List (List UInt8)), ([] : List (List UInt8 × Bool × List UInt8)), r1.1), (0, ([] : List (Int)), ([] : List (List UInt8)), ([] : List (List UInt8 × Bool × List UInt8)), r1.2.1), r1.2.2.1, r1.2.2.2))) else (if (decide ((a0.2.1.length : Int) < 2)) = true then (some ((0, ([] : List (Int)), ([] : List (List UInt8)), ([] : List (List UInt8 × Bool × List UInt8)), ([] : List (List UInt8 × List UInt8))), (0, ([] : List (Int)), ([] : List (List UInt8)), ([] : List (List UInt8 × Bool × List UInt8)), ([] : List (List UInt8 × List UInt8))), ([] : List UInt8), false)) else (if 0 ≤ (w64 ((w64 (Int.tdiv (w64 ((a0.2.1.length : Int) + 1)) 2)) - 1)) ∧ (w64 ((w64 (Int.tdiv (w64 ((a0.2.1.length : Int) + 1)) 2)) - 1)) < (a0.2.2.1.length : Int) then ((buf_Split.f k a0.2.2.2.1 (gt a0.2.2.1 (w64 ((w64 (Int.tdiv (w64 ((a0.2.1.length : Int) + 1)) 2)) - 1)))).bind fun r2 => (if (0 : Int) ≤ (w64 (Int.tdiv (w64 ((a0.2.1.length : Int) + 1)) 2)) ∧ (w64 (Int.tdiv (w64 ((a0.2.1.length : Int) + 1)) 2)) ≤ (a0.2.1.length : Int) then (if (0 : Int) ≤ (w64 ((w64 (Int.tdiv (w64 ((a0.2.1.length : Int) + 1)) 2)) - 1)) ∧ (w64 ((w64 (Int.tdiv (w64 ((a0.2.1.length : Int) + 1)) 2)) - 1)) ≤ (a0.2.2.1.length : Int) then ((slices_Clone_uint32_uint32.f (a0.2.1.take ((w64 (Int.tdiv (w64 ((a0.2.1.length : Int) + 1)) 2))).toNat)).bind fun r3 => ((slices_Clone_string_string.f (a0.2.2.1.take ((w64 ((w64 (Int.tdiv (w64 ((a0.2.1.length : Int) + 1)) 2)) - 1))).toNat)).bind fun r4 => (if 0 ≤ (w64 (Int.tdiv (w64 ((a0.2.1.length : Int) + 1)) 2)) ∧ (w64 (Int.tdiv (w64 ((a0.2.1.length : Int) + 1)) 2)) ≤ (a0.2.1.length : Int) then (if 0 ≤ (w64 (Int.tdiv (w64 ((a0.2.1.length : Int) + 1)) 2)) ∧ (w64 (Int.tdiv (w64 ((a0.2.1.length : Int) + 1)) 2)) ≤ (a0.2.2.1.length : Int) then ((slices_Clone_uint32_uint32.f (a0.2.1.drop ((w64 (Int.tdiv (w64 ((a0.2.1.length : Int) + 1)) 2))).toNat)).bind fun r5 => ((slices_Clone_string_string.f (a0.2.2.1.drop ((w64 (Int.tdiv (w64 ((a0.2.1.length : Int) + 1)) 2))).toNat)).bind fun r6 => (some ((a0.1, r3, r4, r2.1, ([] : List (List UInt8 × List UInt8))), (a0.1, r5, r6, r2.2, ([] : List (List UInt8 × List UInt8))), (gt a0.2.2.1 (w64 ((w64 (Int.tdiv (w64 ((a0.2.1.length : Int) + 1)) 2)) - 1))), true)))) else none) else none))) else none) else none)) else none))
set_option maxRecDepth 20000 in
set_option maxHeartbeats 4000000 in
theorem cleave_Halve.spec {k : Nat} {a0 : Int × List (Int) × List (List UInt8) × (List (List UInt8 × Bool × List UInt8)) × (List (List UInt8 × List UInt8))} {A1 : Option Addr} {c_1 : Nat} {A2 : Option Addr} {c_2 : Nat} {A3 : Option Addr} {c_3 : Nat} {A4 : Option Addr} {c_4 : Nat} {r : (Int × List (Int) × List (List UInt8) × (List (List UInt8 × Bool × List UInt8)) × (List (List UInt8 × List UInt8))) × (Int × List (Int) × List (List UInt8) × (List (List UInt8 × Bool × List UInt8)) × (List (List UInt8 × List UInt8))) × List UInt8 × Bool} (H : cleave_Halve.f k a0 = some r) :
    Spec Try.prog 18 [.agg #[.int .i64 a0.1, .slice A1 a0.2.1.length c_1, .slice A2 a0.2.2.1.length c_2, .slice A3 a0.2.2.2.1.length c_3, .slice A4 a0.2.2.2.2.length c_4]] [] [rdC 46 (.int .u32) a0.2.1 (.slice A1 a0.2.1.length c_1), rdC 9 .str a0.2.2.1 (.slice A2 a0.2.2.1.length c_2), rdC 48 (.pair .str (.pair .bool .str)) a0.2.2.2.1 (.slice A3 a0.2.2.2.1.length c_3), rdC 50 (.pair .str .str) a0.2.2.2.2 (.slice A4 a0.2.2.2.2.length c_4)] (fun v l => ∃ (A_0 : Option Addr) (c_0 : Nat) (A_1 : Option Addr) (c_1 : Nat) (A_2 : Option Addr) (c_2 : Nat) (A_3 : Option Addr) (c_3 : Nat) (A_4 : Option Addr) (c_4 : Nat) (A_5 : Option Addr) (c_5 : Nat) (A_6 : Option Addr) (c_6 : Nat) (A_7 : Option Addr) (c_7 : Nat), v = .tuple #[.agg #[.int .i64 r.1.1, .slice A_0 r.1.2.1.length c_0, .slice A_1 r.1.2.2.1.length c_1, .slice A_2 r.1.2.2.2.1.length c_2, .slice A_3 r.1.2.2.2.2.length c_3], .agg #[.int .i64 r.2.1.1, .slice A_4 r.2.1.2.1.length c_4, .slice A_5 r.2.1.2.2.1.length c_5, .slice A_6 r.2.1.2.2.2.1.length c_6, .slice A_7 r.2.1.2.2.2.2.length c_7], .string ⟨⟨r.2.2.1⟩⟩, .bool r.2.2.2] ∧ l = [ownC 46 (.int .u32) r.1.2.1 (.slice A_0 r.1.2.1.length c_0), ownC 9 .str r.1.2.2.1 (.slice A_1 r.1.2.2.1.length c_1), ownC 48 (.pair .str (.pair .bool .str)) r.1.2.2.2.1 (.slice A_2 r.1.2.2.2.1.length c_2), ownC 50 (.pair .str .str) r.1.2.2.2.2 (.slice A_3 r.1.2.2.2.2.length c_3), ownC 46 (.int .u32) r.2.1.2.1 (.slice A_4 r.2.1.2.1.length c_4), ownC 9 .str r.2.1.2.2.1 (.slice A_5 r.2.1.2.2.1.length c_5), ownC 48 (.pair .str (.pair .bool .str)) r.2.1.2.2.2.1 (.slice A_6 r.2.1.2.2.2.1.length c_6), ownC 50 (.pair .str .str) r.2.1.2.2.2.2 (.slice A_7 r.2.1.2.2.2.2.length c_7)]) := by
  refine Spec.enter Try.func18 rfl (by kernel_rfl) (by kernel_rfl) fun w0 F0 h0 => ?_
  unfold cleave_Halve.f at H
  refine J.seq ?_
  refine J.region ?_
  refine RJ.op rfl rfl (op_box rfl rfl h0) ?_
  rintro _ w1 ⟨b1, rfl, h1⟩
  refine RJ.op rfl rfl (op_alloc ttok rfl rfl h1) ?_
  rintro _ w2 ⟨b2, rfl, h2⟩
  refine RJ.op rfl rfl (op_alloc ttok rfl rfl h2) ?_
  rintro _ w3 ⟨b3, rfl, h3⟩
  refine RJ.run ttok 2 rfl ?_
  refine RJ.fin [(1, .pointer (some ⟨b1, 0, none⟩)), (2, .pointer (some ⟨b2, 0, none⟩)), (3, .pointer (some ⟨b3, 0, none⟩))] rfl ?_
  refine J.seq ?_
  refine J.seq ?_
  refine J.region ?_
  refine RJ.run ttok 1 rfl ?_
  refine RJ.q rfl rfl (q_load_box ttok 2 (fun w e => e ▸ h3.wh) rfl rfl rfl rfl rfl) ?_
  refine RJ.run ttok 1 rfl ?_
  refine RJ.fin [(1, .pointer (some ⟨b1, 0, none⟩)), (2, .pointer (some ⟨b2, 0, none⟩)), (3, .pointer (some ⟨b3, 0, none⟩)), (15, .bool (decide (a0.1 = 0)))] rfl ?_
  refine J.cond rfl (fun c1 => ?_) (fun c1 => ?_)
  · replace H := ite_t c1 H
    refine J.seq ?_
    refine J.region ?_
    refine RJ.run ttok 1 rfl ?_
    refine RJ.q rfl rfl (q_load_box ttok 2 (fun w e => e ▸ h3.wh) rfl rfl rfl rfl rfl) ?_
    obtain ⟨r1, q1, H⟩ := bind_t H
    refine RJ.op rfl rfl (op_call [] (leaf_Halve.spec q1) rfl rfl rfl h3 rfl (gcons (Gives.self 6 rfl) gnil)) ?_
    rintro _ w4 ⟨_, ⟨A5, c_5, A6, c_6, rfl, rfl⟩, h4⟩
    refine RJ.run ttok 9 rfl ?_
    refine RJ.fin [(2, .pointer (some ⟨b2, 0, none⟩)), (3, .pointer (some ⟨b3, 0, none⟩)), (6, .slice A5 r1.1.length c_5), (7, .slice A6 r1.2.1.length c_6), (8, .string ⟨⟨r1.2.2.1⟩⟩), (9, .bool r1.2.2.2)] rfl ?_
    refine J.seq ?_
    refine J.region ?_
    refine RJ.run ttok 6 rfl ?_
    refine RJ.op rfl rfl (op_store ttok 3 rfl h4 rfl rfl rfl rfl rfl rfl rfl) ?_
    intro _ w5 h5
    replace h5 : St w0 F0 (boxC b2 31 [.int .i64 0, .slice none ([] : List (Int)).length 0, .slice none ([] : List (List UInt8)).length 0, .slice none ([] : List (List UInt8 × Bool × List UInt8)).length 0, .slice A5 r1.1.length c_5] :: _) _ w5 := h5
    refine RJ.op rfl rfl (op_store ttok 3 rfl h5 rfl rfl rfl rfl rfl rfl rfl) ?_
    intro _ w6 h6
    replace h6 : St w0 F0 (boxC b3 31 [.int .i64 0, .slice none ([] : List (Int)).length 0, .slice none ([] : List (List UInt8)).length 0, .slice none ([] : List (List UInt8 × Bool × List UInt8)).length 0, .slice A6 r1.2.1.length c_6] :: _) _ w6 := h6
    refine RJ.run ttok 2 rfl ?_
    refine RJ.fin [(2, .pointer (some ⟨b2, 0, none⟩)), (3, .pointer (some ⟨b3, 0, none⟩)), (4, .string ⟨⟨r1.2.2.1⟩⟩), (5, .bool r1.2.2.2)] rfl ?_
    refine J.ret ?_
    have h7 := h6.addNil 46 (.int .u32)
    have h8 := h7.addNil 9 .str
    have h9 := h8.addNil 48 (.pair .str (.pair .bool .str))
    have h10 := h9.addNil 46 (.int .u32)
    have h11 := h10.addNil 9 .str
    have h12 := h11.addNil 48 (.pair .str (.pair .bool .str))
    obtain rfl := Option.some.inj H
    exact ⟨_, _, _, (results_two rfl (rvcons (RV.cell ttok 7 h12 rfl rfl rfl rfl) (rvcons (RV.cell ttok 6 h12 rfl rfl rfl rfl) (rvcons (RV.tmp rfl) (rvcons (RV.tmp rfl) rvnil)))) rfl), ⟨_, _, _, _, _, _, _, _, _, _, _, _, _, _, _, _, rfl, rfl⟩, h12.only [5, 4, 3, 5, 2, 1, 0, 2] rfl⟩
  · replace H := ite_f c1 H
    refine J.skip ?_
    refine J.seq ?_
    refine J.seq ?_
    refine J.region ?_
    refine RJ.run ttok 1 rfl ?_
    refine RJ.q rfl rfl (q_load_box ttok 2 (fun w e => e ▸ h3.wh) rfl rfl rfl rfl rfl) ?_
    refine RJ.run ttok 2 rfl ?_
    refine RJ.fin [(1, .pointer (some ⟨b1, 0, none⟩)), (2, .pointer (some ⟨b2, 0, none⟩)), (3, .pointer (some ⟨b3, 0, none⟩)), (33, .bool (decide ((a0.2.1.length : Int) < 2)))] rfl ?_
    refine J.cond rfl (fun c2 => ?_) (fun c2 => ?_)
    · replace H := ite_t c2 H
      refine J.seq ?_
      refine J.region ?_
      refine RJ.run ttok 2 rfl ?_
      refine RJ.op rfl rfl (op_store ttok 1 rfl h3 rfl rfl rfl rfl rfl rfl rfl) ?_
      intro _ w7 h13
      replace h13 : St w0 F0 (boxC b2 31 [.int .i64 0, .slice none ([] : List (Int)).length 0, .slice none ([] : List (List UInt8)).length 0, .slice none ([] : List (List UInt8 × Bool × List UInt8)).length 0, .slice none ([] : List (List UInt8 × List UInt8)).length 0] :: _) _ w7 := h13
      refine RJ.op rfl rfl (op_store ttok 1 rfl h13 rfl rfl rfl rfl rfl rfl rfl) ?_
      intro _ w8 h14
      replace h14 : St w0 F0 (boxC b3 31 [.int .i64 0, .slice none ([] : List (Int)).length 0, .slice none ([] : List (List UInt8)).length 0, .slice none ([] : List (List UInt8 × Bool × List UInt8)).length 0, .slice none ([] : List (List UInt8 × List UInt8)).length 0] :: _) _ w8 := h14
      refine RJ.run ttok 2 rfl ?_
      refine RJ.fin [(2, .pointer (some ⟨b2, 0, none⟩)), (3, .pointer (some ⟨b3, 0, none⟩)), (4, .string ⟨⟨([] : List UInt8)⟩⟩), (5, .bool false)] rfl ?_
      refine J.ret ?_
      have h15 := h14.addNil 46 (.int .u32)
      have h16 := h15.addNil 9 .str
      have h17 := h16.addNil 48 (.pair .str (.pair .bool .str))
      have h18 := h17.addNil 50 (.pair .str .str)
      have h19 := h18.addNil 46 (.int .u32)
      have h20 := h19.addNil 9 .str
      have h21 := h20.addNil 48 (.pair .str (.pair .bool .str))
      have h22 := h21.addNil 50 (.pair .str .str)
      obtain rfl := Option.some.inj H
      exact ⟨_, _, _, (results_two rfl (rvcons (RV.cell ttok 9 h22 rfl rfl rfl rfl) (rvcons (RV.cell ttok 8 h22 rfl rfl rfl rfl) (rvcons (RV.tmp rfl) (rvcons (RV.tmp rfl) rvnil)))) rfl), ⟨_, _, _, _, _, _, _, _, _, _, _, _, _, _, _, _, rfl, rfl⟩, h22.only [7, 6, 5, 4, 3, 2, 1, 0] rfl⟩
    · replace H := ite_f c2 H
      refine J.skip ?_
      refine J.seq ?_
      refine J.region ?_
      refine RJ.run ttok 1 rfl ?_
      refine RJ.q rfl rfl (q_load_box ttok 2 (fun w e => e ▸ h3.wh) rfl rfl rfl rfl rfl) ?_
      refine RJ.run ttok 4 rfl ?_
      refine RJ.fin [(1, .pointer (some ⟨b1, 0, none⟩)), (2, .pointer (some ⟨b2, 0, none⟩)), (3, .pointer (some ⟨b3, 0, none⟩)), (10, .int .i64 (w64 (Int.tdiv (w64 ((a0.2.1.length : Int) + 1)) 2)))] rfl ?_
      refine J.seq ?_
      refine J.region ?_
      refine RJ.run ttok 1 rfl ?_
      refine RJ.q rfl rfl (q_load_box ttok 2 (fun w e => e ▸ h3.wh) rfl rfl rfl rfl rfl) ?_
      refine RJ.run ttok 2 rfl ?_
      obtain ⟨⟨p1, p2⟩, H⟩ := guard_t H
      have e1 := elem_A h3.wh (Gives.self 4 rfl) p1 p2
      refine RJ.q rfl rfl (q_index ttok rfl rfl rfl rfl rfl e1 p1 p2) ?_
      refine RJ.q rfl rfl (q_load_elem (f := 0) ttok rfl (fun w e => e ▸ h3.wh) (Gives.self 4 rfl) p1 p2 rfl rfl rfl rfl rfl) ?_
      refine RJ.run ttok 1 rfl ?_
      refine RJ.fin [(1, .pointer (some ⟨b1, 0, none⟩)), (2, .pointer (some ⟨b2, 0, none⟩)), (3, .pointer (some ⟨b3, 0, none⟩)), (4, .string ⟨⟨(gt a0.2.2.1 (w64 ((w64 (Int.tdiv (w64 ((a0.2.1.length : Int) + 1)) 2)) - 1)))⟩⟩), (10, .int .i64 (w64 (Int.tdiv (w64 ((a0.2.1.length : Int) + 1)) 2)))] rfl ?_
      refine J.seq ?_
      refine J.region ?_
      refine RJ.run ttok 1 rfl ?_
      refine RJ.q rfl rfl (q_load_box ttok 2 (fun w e => e ▸ h3.wh) rfl rfl rfl rfl rfl) ?_
      refine RJ.run ttok 1 rfl ?_
      obtain ⟨r2, q2, H⟩ := bind_t H
      refine RJ.op rfl rfl (op_call [] (buf_Split.spec q2) rfl rfl rfl h3 rfl (gcons (Gives.self 5 rfl) gnil)) ?_
      rintro _ w9 ⟨_, ⟨A7, c_7, A8, c_8, rfl, rfl⟩, h23⟩
      refine RJ.run ttok 5 rfl ?_
      refine RJ.fin [(1, .pointer (some ⟨b1, 0, none⟩)), (2, .pointer (some ⟨b2, 0, none⟩)), (3, .pointer (some ⟨b3, 0, none⟩)), (4, .string ⟨⟨(gt a0.2.2.1 (w64 ((w64 (Int.tdiv (w64 ((a0.2.1.length : Int) + 1)) 2)) - 1)))⟩⟩), (10, .int .i64 (w64 (Int.tdiv (w64 ((a0.2.1.length : Int) + 1)) 2))), (11, .slice A7 r2.1.length c_7), (12, .slice A8 r2.2.length c_8)] rfl ?_
      refine J.seq ?_
      refine J.heldSt mix (h23.only [0, 0, 0, 1] rfl) ?_
      have h24 := h23.drew
      refine HJ.run ttok rfl [0, 2, 4, 7, 9, 10, 13] rfl ?_
      refine HJ.q (i := 1) rfl rfl rfl rfl rfl rfl (q_load_box ttok 3 (fun w e => e) rfl rfl rfl rfl rfl) ?_
      refine HJ.q (i := 3) rfl rfl rfl rfl rfl rfl (q_load_box ttok 3 (fun w e => e) rfl rfl rfl rfl rfl) ?_
      obtain ⟨⟨p3, p4⟩, H⟩ := guard_t H
      have e2 := h24.cap (Gives.self 5 rfl)
      refine HJ.q (i := 5) rfl rfl rfl rfl rfl rfl (q_cut0 (h := (w64 (Int.tdiv (w64 ((a0.2.1.length : Int) + 1)) 2))) (sub := (a0.2.1.take ((w64 (Int.tdiv (w64 ((a0.2.1.length : Int) + 1)) 2))).toNat)) ttok rfl rfl rfl rfl e2 ⟨_, rfl⟩ p3 p4 rfl) ?_
      refine HJ.q (i := 8) rfl rfl rfl rfl rfl rfl (q_load_box ttok 3 (fun w e => e) rfl rfl rfl rfl rfl) ?_
      obtain ⟨⟨p5, p6⟩, H⟩ := guard_t H
      have e3 := h24.cap (Gives.self 6 rfl)
      refine HJ.q (i := 11) rfl rfl rfl rfl rfl rfl (q_cut0 (h := (w64 ((w64 (Int.tdiv (w64 ((a0.2.1.length : Int) + 1)) 2)) - 1))) (sub := (a0.2.2.1.take ((w64 ((w64 (Int.tdiv (w64 ((a0.2.1.length : Int) + 1)) 2)) - 1))).toNat)) ttok rfl rfl rfl rfl e3 ⟨_, rfl⟩ p5 p6 rfl) ?_
      obtain ⟨r3, q3, H⟩ := bind_t H
      refine HJ.op (i := 6) rfl rfl rfl rfl rfl (op_call [] (slices_Clone_uint32_uint32.spec q3) rfl rfl rfl h24 rfl (gcons ((Gives.self 5 rfl).trans (rd_cut0 (ty := (.int .u32)) (h := (w64 (Int.tdiv (w64 ((a0.2.1.length : Int) + 1)) 2))) (sub := (a0.2.1.take ((w64 (Int.tdiv (w64 ((a0.2.1.length : Int) + 1)) 2))).toNat)) p3 p4 rfl)) gnil)) ?_
      rintro _ w10 ⟨_, ⟨A9, c_9, rfl, rfl⟩, h25⟩
      refine ⟨⟨[_, _], (h25.only [0, 3, 0, 0, 0, 0] rfl)⟩, ?_⟩
      obtain ⟨r4, q4, H⟩ := bind_t H
      refine HJ.op (i := 12) rfl rfl rfl rfl rfl (op_call [] (slices_Clone_string_string.spec q4) rfl rfl rfl h25 rfl (gcons ((Gives.self 7 rfl).trans (rd_cut0 (ty := .str) (h := (w64 ((w64 (Int.tdiv (w64 ((a0.2.1.length : Int) + 1)) 2)) - 1))) (sub := (a0.2.2.1.take ((w64 ((w64 (Int.tdiv (w64 ((a0.2.1.length : Int) + 1)) 2)) - 1))).toNat)) p5 p6 rfl)) gnil)) ?_
      rintro _ w11 ⟨_, ⟨A10, c_10, rfl, rfl⟩, h26⟩
      refine ⟨⟨[_, _, _], (h26.only [0, 0, 3, 0, 0, 0, 0] rfl)⟩, ?_⟩
      refine HJ.run ttok rfl [14] rfl ?_
      refine HJ.op (i := 15) rfl rfl rfl rfl rfl (op_store ttok 5 rfl h26 rfl rfl rfl rfl rfl rfl rfl) ?_
      intro _ w12 h27
      replace h27 : St w0 F0 (boxC b2 31 [.int .i64 a0.1, .slice A9 r3.length c_9, .slice A10 r4.length c_10, .slice A7 r2.1.length c_7, .slice none ([] : List (List UInt8 × List UInt8)).length 0] :: _) _ w12 := h27
      refine ⟨⟨[_, _, _], h27⟩, ?_⟩
      refine HJ.fin [(1, .pointer (some ⟨b1, 0, none⟩)), (2, .pointer (some ⟨b2, 0, none⟩)), (3, .pointer (some ⟨b3, 0, none⟩)), (4, .string ⟨⟨(gt a0.2.2.1 (w64 ((w64 (Int.tdiv (w64 ((a0.2.1.length : Int) + 1)) 2)) - 1)))⟩⟩), (10, .int .i64 (w64 (Int.tdiv (w64 ((a0.2.1.length : Int) + 1)) 2))), (12, .slice A8 r2.2.length c_8)] rfl rfl ?_
      refine J.seq ?_
      refine J.heldSt mix (h27.only [0, 0, 0, 0, 0, 1] rfl) ?_
      have h28 := h27.drew
      refine HJ.run ttok rfl [0, 2, 4, 7, 9, 12] rfl ?_
      refine HJ.q (i := 1) rfl rfl rfl rfl rfl rfl (q_load_box ttok 5 (fun w e => e) rfl rfl rfl rfl rfl) ?_
      refine HJ.q (i := 3) rfl rfl rfl rfl rfl rfl (q_load_box ttok 5 (fun w e => e) rfl rfl rfl rfl rfl) ?_
      obtain ⟨⟨p7, p8⟩, H⟩ := guard_t H
      have e4 := h28.cap (Gives.self 7 rfl)
      refine HJ.q (i := 5) rfl rfl rfl rfl rfl rfl (q_cut (l := (w64 (Int.tdiv (w64 ((a0.2.1.length : Int) + 1)) 2))) (h := (a0.2.1.length : Int)) (sub := (a0.2.1.drop ((w64 (Int.tdiv (w64 ((a0.2.1.length : Int) + 1)) 2))).toNat)) ttok rfl rfl rfl rfl e4 ⟨_, rfl⟩ rfl p7 p8 (Int.le_refl _) (cut_from _ _)) ?_
      refine HJ.q (i := 8) rfl rfl rfl rfl rfl rfl (q_load_box ttok 5 (fun w e => e) rfl rfl rfl rfl rfl) ?_
      obtain ⟨⟨p9, p10⟩, H⟩ := guard_t H
      have e5 := h28.cap (Gives.self 8 rfl)
      refine HJ.q (i := 10) rfl rfl rfl rfl rfl rfl (q_cut (l := (w64 (Int.tdiv (w64 ((a0.2.1.length : Int) + 1)) 2))) (h := (a0.2.2.1.length : Int)) (sub := (a0.2.2.1.drop ((w64 (Int.tdiv (w64 ((a0.2.1.length : Int) + 1)) 2))).toNat)) ttok rfl rfl rfl rfl e5 ⟨_, rfl⟩ rfl p9 p10 (Int.le_refl _) (cut_from _ _)) ?_
      obtain ⟨r5, q5, H⟩ := bind_t H
      refine HJ.op (i := 6) rfl rfl rfl rfl rfl (op_call [] (slices_Clone_uint32_uint32.spec q5) rfl rfl rfl h28 rfl (gcons ((Gives.self 7 rfl).trans (rd_cut (ty := (.int .u32)) (l := (w64 (Int.tdiv (w64 ((a0.2.1.length : Int) + 1)) 2))) (h := (a0.2.1.length : Int)) (sub := (a0.2.1.drop ((w64 (Int.tdiv (w64 ((a0.2.1.length : Int) + 1)) 2))).toNat)) rfl p7 p8 (Int.le_refl _) (cut_from _ _))) gnil)) ?_
      rintro _ w13 ⟨_, ⟨A11, c_11, rfl, rfl⟩, h29⟩
      refine ⟨⟨[_, _], (h29.only [0, 5, 0, 0, 0, 0, 0, 0] rfl)⟩, ?_⟩
      obtain ⟨r6, q6, H⟩ := bind_t H
      refine HJ.op (i := 11) rfl rfl rfl rfl rfl (op_call [] (slices_Clone_string_string.spec q6) rfl rfl rfl h29 rfl (gcons ((Gives.self 9 rfl).trans (rd_cut (ty := .str) (l := (w64 (Int.tdiv (w64 ((a0.2.1.length : Int) + 1)) 2))) (h := (a0.2.2.1.length : Int)) (sub := (a0.2.2.1.drop ((w64 (Int.tdiv (w64 ((a0.2.1.length : Int) + 1)) 2))).toNat)) rfl p9 p10 (Int.le_refl _) (cut_from _ _))) gnil)) ?_
      rintro _ w14 ⟨_, ⟨A12, c_12, rfl, rfl⟩, h30⟩
      refine ⟨⟨[_, _, _], (h30.only [0, 0, 5, 0, 0, 0, 0, 0, 0] rfl)⟩, ?_⟩
      refine HJ.run ttok rfl [13] rfl ?_
      refine HJ.op (i := 14) rfl rfl rfl rfl rfl (op_store ttok 7 rfl h30 rfl rfl rfl rfl rfl rfl rfl) ?_
      intro _ w15 h31
      replace h31 : St w0 F0 (boxC b3 31 [.int .i64 a0.1, .slice A11 r5.length c_11, .slice A12 r6.length c_12, .slice A8 r2.2.length c_8, .slice none ([] : List (List UInt8 × List UInt8)).length 0] :: _) _ w15 := h31
      refine ⟨⟨[_, _, _], h31⟩, ?_⟩
      refine HJ.fin [(2, .pointer (some ⟨b2, 0, none⟩)), (3, .pointer (some ⟨b3, 0, none⟩)), (4, .string ⟨⟨(gt a0.2.2.1 (w64 ((w64 (Int.tdiv (w64 ((a0.2.1.length : Int) + 1)) 2)) - 1)))⟩⟩)] rfl rfl ?_
      refine J.seq ?_
      refine J.midS (fun env w => env = [(2, .pointer (some ⟨b2, 0, none⟩)), (3, .pointer (some ⟨b3, 0, none⟩)), (4, .string ⟨⟨(gt a0.2.2.1 (w64 ((w64 (Int.tdiv (w64 ((a0.2.1.length : Int) + 1)) 2)) - 1)))⟩⟩), (5, .bool true)] ∧ St w0 F0 [boxC b2 31 [.int .i64 a0.1, .slice A9 r3.length c_9, .slice A10 r4.length c_10, .slice A7 r2.1.length c_7, .slice none ([] : List (List UInt8 × List UInt8)).length 0], boxC b3 31 [.int .i64 a0.1, .slice A11 r5.length c_11, .slice A12 r6.length c_12, .slice A8 r2.2.length c_8, .slice none ([] : List (List UInt8 × List UInt8)).length 0], ownC 9 .str r6 (.slice A12 r6.length c_12), ownC 46 (.int .u32) r5 (.slice A11 r5.length c_11), ownC 9 .str r4 (.slice A10 r4.length c_10), ownC 46 (.int .u32) r3 (.slice A9 r3.length c_9), ownC 48 (.pair .str (.pair .bool .str)) r2.1 (.slice A7 r2.1.length c_7), ownC 48 (.pair .str (.pair .bool .str)) r2.2 (.slice A8 r2.2.length c_8), boxC b1 31 [.int .i64 a0.1, .slice A1 a0.2.1.length c_1, .slice A2 a0.2.2.1.length c_2, .slice A3 a0.2.2.2.1.length c_3, .slice A4 a0.2.2.2.2.length c_4]] [rdC 46 (.int .u32) a0.2.1 (.slice A1 a0.2.1.length c_1), rdC 9 .str a0.2.2.1 (.slice A2 a0.2.2.1.length c_2), rdC 48 (.pair .str (.pair .bool .str)) a0.2.2.2.1 (.slice A3 a0.2.2.2.1.length c_3), rdC 50 (.pair .str .str) a0.2.2.2.2 (.slice A4 a0.2.2.2.2.length c_4)] w) ?_ ?_
      · refine J.heldSt mix (h31.only [1, 1, 2, 2, 2, 2, 2] rfl) ?_
        have h34 := h31.drew
        refine HJ.run ttok rfl [2] rfl ?_
        refine HJ.pick [0, 1] (i := 0) rfl rfl rfl rfl ?_
        refine (hscons ?_ (hscons ?_ hsnil))
        · refine HS.op (i := 0) rfl rfl rfl (OpT.ofq (q_load_box ttok 3 (fun w e => e ▸ h34.wh) rfl rfl rfl rfl rfl)) ?_
          rintro _ _ ⟨rfl, rfl⟩
          refine ⟨⟨[_, _], (h34.only [0, 2, 0, 0, 0, 0, 0, 0, 0] rfl)⟩, ?_⟩
          refine HJ.pick [1, 3] (i := 1) rfl rfl rfl rfl ?_
          refine (hscons ?_ (hscons ?_ hsnil))
          · refine HS.op (i := 1) rfl rfl rfl (OpT.ofq (q_load_box ttok 0 (fun w e => e ▸ h34.wh) rfl rfl rfl rfl rfl)) ?_
            rintro _ _ ⟨rfl, rfl⟩
            refine ⟨⟨[_, _], (h34.only [0, 2, 0, 0, 0, 0, 0, 0, 0] rfl)⟩, ?_⟩
            refine HJ.op (i := 3) rfl rfl rfl rfl rfl (op_store ttok 3 rfl h34 rfl rfl rfl rfl rfl rfl rfl) ?_
            intro _ w22 h35
            replace h35 : St w0 F0 (boxC b2 31 [.int .i64 a0.1, .slice A9 r3.length c_9, .slice A10 r4.length c_10, .slice A7 r2.1.length c_7, .slice none ([] : List (List UInt8 × List UInt8)).length 0] :: _) _ w22 := h35
            refine ⟨⟨[_, _], h35⟩, ?_⟩
            refine HJ.op (i := 4) rfl rfl rfl rfl rfl (op_store ttok 1 rfl h35 rfl rfl rfl rfl rfl rfl rfl) ?_
            intro _ w23 h36
            replace h36 : St w0 F0 (boxC b3 31 [.int .i64 a0.1, .slice A11 r5.length c_11, .slice A12 r6.length c_12, .slice A8 r2.2.length c_8, .slice none ([] : List (List UInt8 × List UInt8)).length 0] :: _) _ w23 := h36
            refine ⟨⟨[_, _], h36⟩, ?_⟩
            refine HJ.run ttok rfl [5, 6] rfl ?_
            refine HJ.fin [(2, .pointer (some ⟨b2, 0, none⟩)), (3, .pointer (some ⟨b3, 0, none⟩)), (4, .string ⟨⟨(gt a0.2.2.1 (w64 ((w64 (Int.tdiv (w64 ((a0.2.1.length : Int) + 1)) 2)) - 1)))⟩⟩), (5, .bool true)] rfl rfl ?_
            exact thenP_intro ⟨rfl, ((h36.only [1, 0, 0, 0, 0, 0, 0, 0, 0] rfl).rds [0, 1, 2, 3] rfl)⟩
          · refine HS.op (i := 3) rfl rfl rfl (op_store ttok 3 rfl h34 rfl rfl rfl rfl rfl rfl rfl) ?_
            intro _ w24 h37
            replace h37 : St w0 F0 (boxC b2 31 [.int .i64 a0.1, .slice A9 r3.length c_9, .slice A10 r4.length c_10, .slice A7 r2.1.length c_7, .slice none ([] : List (List UInt8 × List UInt8)).length 0] :: _) _ w24 := h37
            refine ⟨⟨[_, _], h37⟩, ?_⟩
            refine HJ.op (i := 1) rfl rfl rfl rfl rfl (OpT.ofq (q_load_box ttok 1 (fun w e => e ▸ h37.wh) rfl rfl rfl rfl rfl)) ?_
            rintro _ _ ⟨rfl, rfl⟩
            refine ⟨⟨[_, _], h37⟩, ?_⟩
            refine HJ.op (i := 4) rfl rfl rfl rfl rfl (op_store ttok 1 rfl h37 rfl rfl rfl rfl rfl rfl rfl) ?_
            intro _ w26 h38
            replace h38 : St w0 F0 (boxC b3 31 [.int .i64 a0.1, .slice A11 r5.length c_11, .slice A12 r6.length c_12, .slice A8 r2.2.length c_8, .slice none ([] : List (List UInt8 × List UInt8)).length 0] :: _) _ w26 := h38
            refine ⟨⟨[_, _], h38⟩, ?_⟩
            refine HJ.run ttok rfl [5, 6] rfl ?_
            refine HJ.fin [(2, .pointer (some ⟨b2, 0, none⟩)), (3, .pointer (some ⟨b3, 0, none⟩)), (4, .string ⟨⟨(gt a0.2.2.1 (w64 ((w64 (Int.tdiv (w64 ((a0.2.1.length : Int) + 1)) 2)) - 1)))⟩⟩), (5, .bool true)] rfl rfl ?_
            exact thenP_intro ⟨rfl, ((h38.only [1, 0, 0, 0, 0, 0, 0, 0, 0] rfl).rds [0, 1, 2, 3] rfl)⟩
        · refine HS.op (i := 1) rfl rfl rfl (OpT.ofq (q_load_box ttok 0 (fun w e => e ▸ h34.wh) rfl rfl rfl rfl rfl)) ?_
          rintro _ _ ⟨rfl, rfl⟩
          refine ⟨⟨[_, _], (h34.only [0, 2, 0, 0, 0, 0, 0, 0, 0] rfl)⟩, ?_⟩
          refine HJ.op (i := 0) rfl rfl rfl rfl rfl (OpT.ofq (q_load_box ttok 3 (fun w e => e ▸ h34.wh) rfl rfl rfl rfl rfl)) ?_
          rintro _ _ ⟨rfl, rfl⟩
          refine ⟨⟨[_, _], (h34.only [0, 2, 0, 0, 0, 0, 0, 0, 0] rfl)⟩, ?_⟩
          refine HJ.op (i := 3) rfl rfl rfl rfl rfl (op_store ttok 3 rfl h34 rfl rfl rfl rfl rfl rfl rfl) ?_
          intro _ w29 h39
          replace h39 : St w0 F0 (boxC b2 31 [.int .i64 a0.1, .slice A9 r3.length c_9, .slice A10 r4.length c_10, .slice A7 r2.1.length c_7, .slice none ([] : List (List UInt8 × List UInt8)).length 0] :: _) _ w29 := h39
          refine ⟨⟨[_, _], h39⟩, ?_⟩
          refine HJ.op (i := 4) rfl rfl rfl rfl rfl (op_store ttok 1 rfl h39 rfl rfl rfl rfl rfl rfl rfl) ?_
          intro _ w30 h40
          replace h40 : St w0 F0 (boxC b3 31 [.int .i64 a0.1, .slice A11 r5.length c_11, .slice A12 r6.length c_12, .slice A8 r2.2.length c_8, .slice none ([] : List (List UInt8 × List UInt8)).length 0] :: _) _ w30 := h40
          refine ⟨⟨[_, _], h40⟩, ?_⟩
          refine HJ.run ttok rfl [5, 6] rfl ?_
          refine HJ.fin [(2, .pointer (some ⟨b2, 0, none⟩)), (3, .pointer (some ⟨b3, 0, none⟩)), (4, .string ⟨⟨(gt a0.2.2.1 (w64 ((w64 (Int.tdiv (w64 ((a0.2.1.length : Int) + 1)) 2)) - 1)))⟩⟩), (5, .bool true)] rfl rfl ?_
          exact thenP_intro ⟨rfl, ((h40.only [1, 0, 0, 0, 0, 0, 0, 0, 0] rfl).rds [0, 1, 2, 3] rfl)⟩
      · rintro env w31 ⟨rfl, h41⟩
        refine J.ret ?_
        have h42 := h41.addNil 50 (.pair .str .str)
        have h43 := h42.addNil 50 (.pair .str .str)
        obtain rfl := Option.some.inj H
        exact ⟨_, _, _, (results_two rfl (rvcons (RV.cell ttok 2 h43 rfl rfl rfl rfl) (rvcons (RV.cell ttok 3 h43 rfl rfl rfl rfl) (rvcons (RV.tmp rfl) (rvcons (RV.tmp rfl) rvnil)))) rfl), ⟨_, _, _, _, _, _, _, _, _, _, _, _, _, _, _, _, rfl, rfl⟩, h43.only [7, 6, 6, 1, 4, 3, 3, 0] rfl⟩

/-! sluicegate/node.Clone -/
def node_Clone.f (a0 : Int × List (Int) × List (List UInt8) × (List (List UInt8 × Bool × List UInt8)) × (List (List UInt8 × List UInt8))) : Option ((Int × List (Int) × List (List UInt8) × (List (List UInt8 × Bool × List UInt8)) × (List (List UInt8 × List UInt8)))) := (slices_Clone_uint32_uint32.f a0.2.1).bind fun r1 => ((slices_Clone_string_string.f a0.2.2.1).bind fun r2 => ((slices_Clone_api_Msg_api_Msg.f a0.2.2.2.1).bind fun r3 => ((slices_Clone_api_Pair_api_Pair.f a0.2.2.2.2).bind fun r4 => (some (a0.1, r1, r2, r3, r4)))))
set_option maxRecDepth 20000 in
set_option maxHeartbeats 4000000 in
theorem node_Clone.spec {a0 : Int × List (Int) × List (List UInt8) × (List (List UInt8 × Bool × List UInt8)) × (List (List UInt8 × List UInt8))} {A1 : Option Addr} {c_1 : Nat} {A2 : Option Addr} {c_2 : Nat} {A3 : Option Addr} {c_3 : Nat} {A4 : Option Addr} {c_4 : Nat} {r : (Int × List (Int) × List (List UInt8) × (List (List UInt8 × Bool × List UInt8)) × (List (List UInt8 × List UInt8)))} (H : node_Clone.f a0 = some r) :
    Spec Try.prog 30 [.agg #[.int .i64 a0.1, .slice A1 a0.2.1.length c_1, .slice A2 a0.2.2.1.length c_2, .slice A3 a0.2.2.2.1.length c_3, .slice A4 a0.2.2.2.2.length c_4]] [] [rdC 46 (.int .u32) a0.2.1 (.slice A1 a0.2.1.length c_1), rdC 9 .str a0.2.2.1 (.slice A2 a0.2.2.1.length c_2), rdC 48 (.pair .str (.pair .bool .str)) a0.2.2.2.1 (.slice A3 a0.2.2.2.1.length c_3), rdC 50 (.pair .str .str) a0.2.2.2.2 (.slice A4 a0.2.2.2.2.length c_4)] (fun v l => ∃ (A_0 : Option Addr) (c_0 : Nat) (A_1 : Option Addr) (c_1 : Nat) (A_2 : Option Addr) (c_2 : Nat) (A_3 : Option Addr) (c_3 : Nat), v = .agg #[.int .i64 r.1, .slice A_0 r.2.1.length c_0, .slice A_1 r.2.2.1.length c_1, .slice A_2 r.2.2.2.1.length c_2, .slice A_3 r.2.2.2.2.length c_3] ∧ l = [ownC 46 (.int .u32) r.2.1 (.slice A_0 r.2.1.length c_0), ownC 9 .str r.2.2.1 (.slice A_1 r.2.2.1.length c_1), ownC 48 (.pair .str (.pair .bool .str)) r.2.2.2.1 (.slice A_2 r.2.2.2.1.length c_2), ownC 50 (.pair .str .str) r.2.2.2.2 (.slice A_3 r.2.2.2.2.length c_3)]) := by
  refine Spec.enter Try.func30 rfl (by kernel_rfl) (by kernel_rfl) fun w0 F0 h0 => ?_
  unfold node_Clone.f at H
  refine J.seq ?_
  refine J.region ?_
  refine RJ.op rfl rfl (op_box rfl rfl h0) ?_
  rintro _ w1 ⟨b1, rfl, h1⟩
  refine RJ.op rfl rfl (op_alloc ttok rfl rfl h1) ?_
  rintro _ w2 ⟨b2, rfl, h2⟩
  refine RJ.fin [(1, .pointer (some ⟨b1, 0, none⟩)), (2, .pointer (some ⟨b2, 0, none⟩))] rfl ?_
  refine J.seq ?_
  refine J.heldSt mix (h2.only [1] rfl) ?_
  have h3 := h2.drew
  refine HJ.run ttok rfl [0, 2, 5, 8, 11] rfl ?_
  refine HJ.q (i := 1) rfl rfl rfl rfl rfl rfl (q_load_box ttok 0 (fun w e => e) rfl rfl rfl rfl rfl) ?_
  refine HJ.q (i := 3) rfl rfl rfl rfl rfl rfl (q_load_box ttok 0 (fun w e => e) rfl rfl rfl rfl rfl) ?_
  refine HJ.q (i := 6) rfl rfl rfl rfl rfl rfl (q_load_box ttok 0 (fun w e => e) rfl rfl rfl rfl rfl) ?_
  refine HJ.q (i := 9) rfl rfl rfl rfl rfl rfl (q_load_box ttok 0 (fun w e => e) rfl rfl rfl rfl rfl) ?_
  refine HJ.q (i := 12) rfl rfl rfl rfl rfl rfl (q_load_box ttok 0 (fun w e => e) rfl rfl rfl rfl rfl) ?_
  obtain ⟨r1, q1, H⟩ := bind_t H
  refine HJ.op (i := 4) rfl rfl rfl rfl rfl (op_call [] (slices_Clone_uint32_uint32.spec q1) rfl rfl rfl h3 rfl (gcons (Gives.self 2 rfl) gnil)) ?_
  rintro _ w3 ⟨_, ⟨A5, c_5, rfl, rfl⟩, h4⟩
  refine ⟨⟨[_, _], h4⟩, ?_⟩
  obtain ⟨r2, q2, H⟩ := bind_t H
  refine HJ.op (i := 7) rfl rfl rfl rfl rfl (op_call [] (slices_Clone_string_string.spec q2) rfl rfl rfl h4 rfl (gcons (Gives.self 4 rfl) gnil)) ?_
  rintro _ w4 ⟨_, ⟨A6, c_6, rfl, rfl⟩, h5⟩
  refine ⟨⟨[_, _, _], h5⟩, ?_⟩
  obtain ⟨r3, q3, H⟩ := bind_t H
  refine HJ.op (i := 10) rfl rfl rfl rfl rfl (op_call [] (slices_Clone_api_Msg_api_Msg.spec q3) rfl rfl rfl h5 rfl (gcons (Gives.self 6 rfl) gnil)) ?_
  rintro _ w5 ⟨_, ⟨A7, c_7, rfl, rfl⟩, h6⟩
  refine ⟨⟨[_, _, _, _], h6⟩, ?_⟩
  obtain ⟨r4, q4, H⟩ := bind_t H
  refine HJ.op (i := 13) rfl rfl rfl rfl rfl (op_call [] (slices_Clone_api_Pair_api_Pair.spec q4) rfl rfl rfl h6 rfl (gcons (Gives.self 8 rfl) gnil)) ?_
  rintro _ w6 ⟨_, ⟨A8, c_8, rfl, rfl⟩, h7⟩
  refine ⟨⟨[_, _, _, _, _], h7⟩, ?_⟩
  refine HJ.run ttok rfl [14] rfl ?_
  refine HJ.op (i := 15) rfl rfl rfl rfl rfl (op_store ttok 4 rfl h7 rfl rfl rfl rfl rfl rfl rfl) ?_
  intro _ w7 h8
  replace h8 : St w0 F0 (boxC b2 31 [.int .i64 a0.1, .slice A5 r1.length c_5, .slice A6 r2.length c_6, .slice A7 r3.length c_7, .slice A8 r4.length c_8] :: _) _ w7 := h8
  refine ⟨⟨[_, _, _, _, _], h8⟩, ?_⟩
  refine HJ.fin [(2, .pointer (some ⟨b2, 0, none⟩))] rfl rfl ?_
  refine J.ret ?_
  obtain rfl := Option.some.inj H
  exact ⟨_, _, _, (results_two rfl (rvcons (RV.cell ttok 0 h8 rfl rfl rfl rfl) rvnil) rfl), ⟨_, _, _, _, _, _, _, _, rfl, rfl⟩, h8.only [4, 3, 2, 1] rfl⟩

/-! sluicegate/cleave.Join -/
def cleave_Join.f (a0 : Int × List (Int) × List (List UInt8) × (List (List UInt8 × Bool × List UInt8)) × (List (List UInt8 × List UInt8))) (a1 : List UInt8) (a2 : Int × List (Int) × List (List UInt8) × (List (List UInt8 × Bool × List UInt8)) × (List (List UInt8 × List UInt8))) : Option ((Int × List (Int) × List (List UInt8) × (List (List UInt8 × Bool × List UInt8)) × (List (List UInt8 × List UInt8))) × Bool) := if (!decide (a0.1 = a2.1)) = true then (some ((0, ([] : List (Int)), ([] : List (List UInt8)), ([] : List (List UInt8 × Bool × List UInt8)), ([] : List (List UInt8 × List UInt8))), false)) else ((node_Clone.f (a0.1, a0.2.1, a0.2.2.1, a0.2.2.2.1, a0.2.2.2.2)).bind fun r1 => (if (r1.2.2.2.2.length + a2.2.2.2.2.length) * 32 ≤ 140737488355328 then (if (r1.2.1.length + a2.2.1.length) * 4 ≤ 140737488355328 then (if (r1.2.2.2.1.length + a2.2.2.2.1.length) * 40 ≤ 140737488355328 then (if (decide (0 < r1.1)) = true then (if (r1.2.2.1.length + ([a1] : List (List UInt8)).length) * 16 ≤ 140737488355328 then (if ((r1.2.2.1 ++ ([a1] : List (List UInt8))).length + a2.2.2.1.length) * 16 ≤ 140737488355328 then (some ((r1.1, (r1.2.1 ++ a2.2.1), ((r1.2.2.1 ++ ([a1] : List (List UInt8))) ++ a2.2.2.1), (r1.2.2.2.1 ++ a2.2.2.2.1), (r1.2.2.2.2 ++ a2.2.2.2.2)), true)) else none) else none) else (some ((r1.1, (r1.2.1 ++ a2.2.1), r1.2.2.1, (r1.2.2.2.1 ++ a2.2.2.2.1), (r1.2.2.2.2 ++ a2.2.2.2.2)), true))) else none) else none) else none))
set_option maxRecDepth 20000 in
set_option maxHeartbeats 4000000 in
theorem cleave_Join.spec {a0 : Int × List (Int) × List (List UInt8) × (List (List UInt8 × Bool × List UInt8)) × (List (List UInt8 × List UInt8))} {a1 : List UInt8} {a2 : Int × List (Int) × List (List UInt8) × (List (List UInt8 × Bool × List UInt8)) × (List (List UInt8 × List UInt8))} {A1 : Option Addr} {c_1 : Nat} {A2 : Option Addr} {c_2 : Nat} {A3 : Option Addr} {c_3 : Nat} {A4 : Option Addr} {c_4 : Nat} {A5 : Option Addr} {c_5 : Nat} {A6 : Option Addr} {c_6 : Nat} {A7 : Option Addr} {c_7 : Nat} {A8 : Option Addr} {c_8 : Nat} {r : (Int × List (Int) × List (List UInt8) × (List (List UInt8 × Bool × List UInt8)) × (List (List UInt8 × List UInt8))) × Bool} (H : cleave_Join.f a0 a1 a2 = some r) :
    Spec Try.prog 22 [.agg #[.int .i64 a0.1, .slice A1 a0.2.1.length c_1, .slice A2 a0.2.2.1.length c_2, .slice A3 a0.2.2.2.1.length c_3, .slice A4 a0.2.2.2.2.length c_4], .string ⟨⟨a1⟩⟩, .agg #[.int .i64 a2.1, .slice A5 a2.2.1.length c_5, .slice A6 a2.2.2.1.length c_6, .slice A7 a2.2.2.2.1.length c_7, .slice A8 a2.2.2.2.2.length c_8]] [] [rdC 46 (.int .u32) a0.2.1 (.slice A1 a0.2.1.length c_1), rdC 9 .str a0.2.2.1 (.slice A2 a0.2.2.1.length c_2), rdC 48 (.pair .str (.pair .bool .str)) a0.2.2.2.1 (.slice A3 a0.2.2.2.1.length c_3), rdC 50 (.pair .str .str) a0.2.2.2.2 (.slice A4 a0.2.2.2.2.length c_4), rdC 46 (.int .u32) a2.2.1 (.slice A5 a2.2.1.length c_5), rdC 9 .str a2.2.2.1 (.slice A6 a2.2.2.1.length c_6), rdC 48 (.pair .str (.pair .bool .str)) a2.2.2.2.1 (.slice A7 a2.2.2.2.1.length c_7), rdC 50 (.pair .str .str) a2.2.2.2.2 (.slice A8 a2.2.2.2.2.length c_8)] (fun v l => ∃ (A_0 : Option Addr) (c_0 : Nat) (A_1 : Option Addr) (c_1 : Nat) (A_2 : Option Addr) (c_2 : Nat) (A_3 : Option Addr) (c_3 : Nat), v = .tuple #[.agg #[.int .i64 r.1.1, .slice A_0 r.1.2.1.length c_0, .slice A_1 r.1.2.2.1.length c_1, .slice A_2 r.1.2.2.2.1.length c_2, .slice A_3 r.1.2.2.2.2.length c_3], .bool r.2] ∧ l = [ownC 46 (.int .u32) r.1.2.1 (.slice A_0 r.1.2.1.length c_0), ownC 9 .str r.1.2.2.1 (.slice A_1 r.1.2.2.1.length c_1), ownC 48 (.pair .str (.pair .bool .str)) r.1.2.2.2.1 (.slice A_2 r.1.2.2.2.1.length c_2), ownC 50 (.pair .str .str) r.1.2.2.2.2 (.slice A_3 r.1.2.2.2.2.length c_3)]) := by
  refine Spec.enter Try.func22 rfl (by kernel_rfl) (by kernel_rfl) fun w0 F0 h0 => ?_
  unfold cleave_Join.f at H
  refine J.seq ?_
  refine J.region ?_
  refine RJ.op rfl rfl (op_box rfl rfl h0) ?_
  rintro _ w1 ⟨b1, rfl, h1⟩
  refine RJ.op rfl rfl (op_box rfl rfl h1) ?_
  rintro _ w2 ⟨b2, rfl, h2⟩
  refine RJ.op rfl rfl (op_alloc ttok rfl rfl h2) ?_
  rintro _ w3 ⟨b3, rfl, h3⟩
  refine RJ.run ttok 1 rfl ?_
  refine RJ.fin [(1, .string ⟨⟨a1⟩⟩), (3, .pointer (some ⟨b1, 0, none⟩)), (5, .pointer (some ⟨b2, 0, none⟩)), (6, .pointer (some ⟨b3, 0, none⟩))] rfl ?_
  refine J.seq ?_
  refine J.seq ?_
  refine J.region ?_
  refine RJ.run ttok 1 rfl ?_
  refine RJ.q rfl rfl (q_load_box ttok 2 (fun w e => e ▸ h3.wh) rfl rfl rfl rfl rfl) ?_
  refine RJ.run ttok 1 rfl ?_
  refine RJ.q rfl rfl (q_load_box ttok 1 (fun w e => e ▸ h3.wh) rfl rfl rfl rfl rfl) ?_
  refine RJ.run ttok 1 rfl ?_
  refine RJ.fin [(1, .string ⟨⟨a1⟩⟩), (3, .pointer (some ⟨b1, 0, none⟩)), (5, .pointer (some ⟨b2, 0, none⟩)), (6, .pointer (some ⟨b3, 0, none⟩)), (13, .bool (!decide (a0.1 = a2.1)))] rfl ?_
  refine J.cond rfl (fun c1 => ?_) (fun c1 => ?_)
  · replace H := ite_t c1 H
    refine J.seq ?_
    refine J.region ?_
    refine RJ.run ttok 1 rfl ?_
    refine RJ.op rfl rfl (op_store ttok 0 rfl h3 rfl rfl rfl rfl rfl rfl rfl) ?_
    intro _ w4 h4
    replace h4 : St w0 F0 (boxC b3 31 [.int .i64 0, .slice none ([] : List (Int)).length 0, .slice none ([] : List (List UInt8)).length 0, .slice none ([] : List (List UInt8 × Bool × List UInt8)).length 0, .slice none ([] : List (List UInt8 × List UInt8)).length 0] :: _) _ w4 := h4
    refine RJ.run ttok 1 rfl ?_
    refine RJ.fin [(6, .pointer (some ⟨b3, 0, none⟩)), (7, .bool false)] rfl ?_
    refine J.ret ?_
    have h5 := h4.addNil 46 (.int .u32)
    have h6 := h5.addNil 9 .str
    have h7 := h6.addNil 48 (.pair .str (.pair .bool .str))
    have h8 := h7.addNil 50 (.pair .str .str)
    obtain rfl := Option.some.inj H
    exact ⟨_, _, _, (results_two rfl (rvcons (RV.cell ttok 4 h8 rfl rfl rfl rfl) (rvcons (RV.tmp rfl) rvnil)) rfl), ⟨_, _, _, _, _, _, _, _, rfl, rfl⟩, h8.only [3, 2, 1, 0] rfl⟩
  · replace H := ite_f c1 H
    refine J.skip ?_
    refine J.seq ?_
    refine J.region ?_
    refine RJ.q rfl rfl (q_load_box ttok 2 (fun w e => e ▸ h3.wh) rfl rfl rfl rfl rfl) ?_
    obtain ⟨r1, q1, H⟩ := bind_t H
    refine RJ.op rfl rfl (op_call [] (node_Clone.spec q1) rfl rfl rfl h3 rfl (gcons (Gives.self 3 rfl) (gcons (Gives.self 4 rfl) (gcons (Gives.self 5 rfl) (gcons (Gives.self 6 rfl) gnil))))) ?_
    rintro _ w5 ⟨_, ⟨A9, c_9, A10, c_10, A11, c_11, A12, c_12, rfl, rfl⟩, h9⟩
    refine RJ.op rfl rfl (op_alloc ttok rfl rfl h9) ?_
    rintro _ w6 ⟨b4, rfl, h10⟩
    refine RJ.op rfl rfl (op_store ttok 0 rfl h10 rfl rfl rfl rfl rfl rfl rfl) ?_
    intro _ w7 h11
    replace h11 : St w0 F0 (boxC b4 31 [.int .i64 r1.1, .slice A9 r1.2.1.length c_9, .slice A10 r1.2.2.1.length c_10, .slice A11 r1.2.2.2.1.length c_11, .slice A12 r1.2.2.2.2.length c_12] :: _) _ w7 := h11
    refine RJ.fin [(1, .string ⟨⟨a1⟩⟩), (5, .pointer (some ⟨b2, 0, none⟩)), (6, .pointer (some ⟨b3, 0, none⟩)), (8, .pointer (some ⟨b4, 0, none⟩))] rfl ?_
    refine J.seq ?_
    refine J.region ?_
    refine RJ.run ttok 1 rfl ?_
    refine RJ.q rfl rfl (q_load_box ttok 0 (fun w e => e ▸ h11.wh) rfl rfl rfl rfl rfl) ?_
    refine RJ.run ttok 1 rfl ?_
    refine RJ.q rfl rfl (q_load_box ttok 6 (fun w e => e ▸ h11.wh) rfl rfl rfl rfl rfl) ?_
    obtain ⟨p1, H⟩ := guard_t H
    refine RJ.op rfl rfl (op_append ttok rfl 4 rfl h11 rfl (Gives.self 14 rfl) rfl rfl rfl rfl rfl rfl (by decide) (by decide) p1) ?_
    rintro _ w8 ⟨A13, c_13, rfl, h12⟩
    refine RJ.run ttok 1 rfl ?_
    refine RJ.op rfl rfl (op_store ttok 1 rfl h12 rfl rfl rfl rfl rfl rfl rfl) ?_
    intro _ w9 h13
    replace h13 : St w0 F0 (boxC b4 31 [.int .i64 r1.1, .slice A9 r1.2.1.length c_9, .slice A10 r1.2.2.1.length c_10, .slice A11 r1.2.2.2.1.length c_11, .slice A13 (r1.2.2.2.2 ++ a2.2.2.2.2).length c_13] :: _) _ w9 := h13
    refine RJ.fin [(1, .string ⟨⟨a1⟩⟩), (5, .pointer (some ⟨b2, 0, none⟩)), (6, .pointer (some ⟨b3, 0, none⟩)), (8, .pointer (some ⟨b4, 0, none⟩))] rfl ?_
    refine J.seq ?_
    refine J.region ?_
    refine RJ.run ttok 1 rfl ?_
    refine RJ.q rfl rfl (q_load_box ttok 0 (fun w e => e ▸ h13.wh) rfl rfl rfl rfl rfl) ?_
    refine RJ.run ttok 1 rfl ?_
    refine RJ.q rfl rfl (q_load_box ttok 6 (fun w e => e ▸ h13.wh) rfl rfl rfl rfl rfl) ?_
    obtain ⟨p2, H⟩ := guard_t H
    refine RJ.op rfl rfl (op_append ttok rfl 2 rfl h13 rfl (Gives.self 11 rfl) rfl rfl rfl rfl rfl rfl (by decide) (by decide) p2) ?_
    rintro _ w10 ⟨A14, c_14, rfl, h14⟩
    refine RJ.run ttok 1 rfl ?_
    refine RJ.op rfl rfl (op_store ttok 1 rfl h14 rfl rfl rfl rfl rfl rfl rfl) ?_
    intro _ w11 h15
    replace h15 : St w0 F0 (boxC b4 31 [.int .i64 r1.1, .slice A14 (r1.2.1 ++ a2.2.1).length c_14, .slice A10 r1.2.2.1.length c_10, .slice A11 r1.2.2.2.1.length c_11, .slice A13 (r1.2.2.2.2 ++ a2.2.2.2.2).length c_13] :: _) _ w11 := h15
    refine RJ.fin [(1, .string ⟨⟨a1⟩⟩), (5, .pointer (some ⟨b2, 0, none⟩)), (6, .pointer (some ⟨b3, 0, none⟩)), (8, .pointer (some ⟨b4, 0, none⟩))] rfl ?_
    refine J.seq ?_
    refine J.region ?_
    refine RJ.run ttok 1 rfl ?_
    refine RJ.q rfl rfl (q_load_box ttok 0 (fun w e => e ▸ h15.wh) rfl rfl rfl rfl rfl) ?_
    refine RJ.run ttok 1 rfl ?_
    refine RJ.q rfl rfl (q_load_box ttok 6 (fun w e => e ▸ h15.wh) rfl rfl rfl rfl rfl) ?_
    obtain ⟨p3, H⟩ := guard_t H
    refine RJ.op rfl rfl (op_append ttok rfl 4 rfl h15 rfl (Gives.self 13 rfl) rfl rfl rfl rfl rfl rfl (by decide) (by decide) p3) ?_
    rintro _ w12 ⟨A15, c_15, rfl, h16⟩
    refine RJ.run ttok 1 rfl ?_
    refine RJ.op rfl rfl (op_store ttok 1 rfl h16 rfl rfl rfl rfl rfl rfl rfl) ?_
    intro _ w13 h17
    replace h17 : St w0 F0 (boxC b4 31 [.int .i64 r1.1, .slice A14 (r1.2.1 ++ a2.2.1).length c_14, .slice A10 r1.2.2.1.length c_10, .slice A15 (r1.2.2.2.1 ++ a2.2.2.2.1).length c_15, .slice A13 (r1.2.2.2.2 ++ a2.2.2.2.2).length c_13] :: _) _ w13 := h17
    refine RJ.fin [(1, .string ⟨⟨a1⟩⟩), (5, .pointer (some ⟨b2, 0, none⟩)), (6, .pointer (some ⟨b3, 0, none⟩)), (8, .pointer (some ⟨b4, 0, none⟩))] rfl ?_
    refine J.seq ?_
    refine J.seq ?_
    refine J.region ?_
    refine RJ.run ttok 1 rfl ?_
    refine RJ.q rfl rfl (q_load_box ttok 0 (fun w e => e ▸ h17.wh) rfl rfl rfl rfl rfl) ?_
    refine RJ.run ttok 1 rfl ?_
    refine RJ.fin [(1, .string ⟨⟨a1⟩⟩), (5, .pointer (some ⟨b2, 0, none⟩)), (6, .pointer (some ⟨b3, 0, none⟩)), (8, .pointer (some ⟨b4, 0, none⟩)), (37, .bool (decide (0 < r1.1)))] rfl ?_
    refine J.cond rfl (fun c2 => ?_) (fun c2 => ?_)
    · replace H := ite_t c2 H
      obtain ⟨p4, H⟩ := guard_t H
      obtain ⟨p5, H⟩ := guard_t H
      refine J.midS (fun env w => ∃ (A17 : Option Addr) (c_17 : Nat), env = [(6, .pointer (some ⟨b3, 0, none⟩)), (8, .pointer (some ⟨b4, 0, none⟩))] ∧ St w0 F0 [boxC b4 31 [.int .i64 r1.1, .slice A14 (r1.2.1 ++ a2.2.1).length c_14, .slice A17 ((r1.2.2.1 ++ ([a1] : List (List UInt8))) ++ a2.2.2.1).length c_17, .slice A15 (r1.2.2.2.1 ++ a2.2.2.2.1).length c_15, .slice A13 (r1.2.2.2.2 ++ a2.2.2.2.2).length c_13], ownC 9 .str ((r1.2.2.1 ++ ([a1] : List (List UInt8))) ++ a2.2.2.1) (.slice A17 ((r1.2.2.1 ++ ([a1] : List (List UInt8))) ++ a2.2.2.1).length c_17), ownC 48 (.pair .str (.pair .bool .str)) (r1.2.2.2.1 ++ a2.2.2.2.1) (.slice A15 (r1.2.2.2.1 ++ a2.2.2.2.1).length c_15), ownC 46 (.int .u32) (r1.2.1 ++ a2.2.1) (.slice A14 (r1.2.1 ++ a2.2.1).length c_14), ownC 50 (.pair .str .str) (r1.2.2.2.2 ++ a2.2.2.2.2) (.slice A13 (r1.2.2.2.2 ++ a2.2.2.2.2).length c_13), boxC b3 31 [.int .i64 0, .slice none ([] : List (Int)).length 0, .slice none ([] : List (List UInt8)).length 0, .slice none ([] : List (List UInt8 × Bool × List UInt8)).length 0, .slice none ([] : List (List UInt8 × List UInt8)).length 0], boxC b2 31 [.int .i64 a2.1, .slice A5 a2.2.1.length c_5, .slice A6 a2.2.2.1.length c_6, .slice A7 a2.2.2.2.1.length c_7, .slice A8 a2.2.2.2.2.length c_8], boxC b1 31 [.int .i64 a0.1, .slice A1 a0.2.1.length c_1, .slice A2 a0.2.2.1.length c_2, .slice A3 a0.2.2.2.1.length c_3, .slice A4 a0.2.2.2.2.length c_4]] [rdC 46 (.int .u32) a0.2.1 (.slice A1 a0.2.1.length c_1), rdC 9 .str a0.2.2.1 (.slice A2 a0.2.2.1.length c_2), rdC 48 (.pair .str (.pair .bool .str)) a0.2.2.2.1 (.slice A3 a0.2.2.2.1.length c_3), rdC 50 (.pair .str .str) a0.2.2.2.2 (.slice A4 a0.2.2.2.2.length c_4), rdC 46 (.int .u32) a2.2.1 (.slice A5 a2.2.1.length c_5), rdC 9 .str a2.2.2.1 (.slice A6 a2.2.2.1.length c_6), rdC 48 (.pair .str (.pair .bool .str)) a2.2.2.2.1 (.slice A7 a2.2.2.2.1.length c_7), rdC 50 (.pair .str .str) a2.2.2.2.2 (.slice A8 a2.2.2.2.2.length c_8)] w) ?_ ?_
      · refine J.heldSt mix (h17.only [5, 5, 5] rfl) ?_
        have h22 := h17.drew
        refine HJ.run ttok rfl [0, 2, 5] rfl ?_
        refine HJ.q (i := 6) rfl rfl rfl rfl rfl rfl (q_load_box ttok 1 (fun w e => e) rfl rfl rfl rfl rfl) ?_
        refine HJ.pick [1, 3] (i := 1) rfl rfl rfl rfl ?_
        refine (hscons ?_ (hscons ?_ hsnil))
        · refine HS.op (i := 1) rfl rfl rfl (OpT.ofq (q_load_box ttok 0 (fun w e => e ▸ h22.wh) rfl rfl rfl rfl rfl)) ?_
          rintro _ _ ⟨rfl, rfl⟩
          refine ⟨⟨[_, _, _, _, _], h22⟩, ?_⟩
          refine HJ.op (i := 3) rfl rfl rfl rfl rfl (op_lit ttok .str rfl ([a1] : List (List UInt8)) rfl h22 rfl rfl (by decide) rfl rfl rfl rfl rfl rfl rfl) ?_
          rintro _ w20 ⟨b6, rfl, h23⟩
          refine ⟨⟨[_, _, _, _, _, _], h23⟩, ?_⟩
          refine HJ.op (i := 4) rfl rfl rfl rfl rfl (op_append ttok rfl 5 rfl h23 rfl (Gives.of 0 rfl own_rd) rfl rfl rfl rfl rfl rfl (by decide) (by decide) p4) ?_
          rintro _ w21 ⟨A18, c_18, rfl, h24⟩
          refine ⟨⟨[_, _, _, _, _, _], h24⟩, ?_⟩
          refine HJ.op (i := 7) rfl rfl rfl rfl rfl (op_append ttok rfl 0 rfl h24 rfl (Gives.self 13 rfl) rfl rfl rfl rfl rfl rfl (by decide) (by decide) p5) ?_
          rintro _ w22 ⟨A19, c_19, rfl, h25⟩
          refine ⟨⟨[_, _, _, _, _, _], h25⟩, ?_⟩
          refine HJ.run ttok rfl [8] rfl ?_
          refine HJ.op (i := 9) rfl rfl rfl rfl rfl (op_store ttok 2 rfl h25 rfl rfl rfl rfl rfl rfl rfl) ?_
          intro _ w23 h26
          replace h26 : St w0 F0 (boxC b4 31 [.int .i64 r1.1, .slice A14 (r1.2.1 ++ a2.2.1).length c_14, .slice A19 ((r1.2.2.1 ++ ([a1] : List (List UInt8))) ++ a2.2.2.1).length c_19, .slice A15 (r1.2.2.2.1 ++ a2.2.2.2.1).length c_15, .slice A13 (r1.2.2.2.2 ++ a2.2.2.2.2).length c_13] :: _) _ w23 := h26
          refine ⟨⟨[_, _, _, _, _, _], h26⟩, ?_⟩
          refine HJ.fin [(6, .pointer (some ⟨b3, 0, none⟩)), (8, .pointer (some ⟨b4, 0, none⟩))] rfl rfl ?_
          exact thenP_intro ⟨A19, c_19, rfl, ((h26.only [0, 0, 1, 1, 1, 1, 1, 1] rfl).rds [0, 1, 2, 3, 4, 5, 6, 7] rfl)⟩
        · refine HS.op (i := 3) rfl rfl rfl (op_lit ttok .str rfl ([a1] : List (List UInt8)) rfl h22 rfl rfl (by decide) rfl rfl rfl rfl rfl rfl rfl) ?_
          rintro _ w24 ⟨b7, rfl, h27⟩
          refine ⟨⟨[_, _, _, _, _, _], h27⟩, ?_⟩
          refine HJ.op (i := 1) rfl rfl rfl rfl rfl (OpT.ofq (q_load_box ttok 1 (fun w e => e ▸ h27.wh) rfl rfl rfl rfl rfl)) ?_
          rintro _ _ ⟨rfl, rfl⟩
          refine ⟨⟨[_, _, _, _, _, _], h27⟩, ?_⟩
          refine HJ.op (i := 4) rfl rfl rfl rfl rfl (op_append ttok rfl 5 rfl h27 rfl (Gives.of 0 rfl own_rd) rfl rfl rfl rfl rfl rfl (by decide) (by decide) p4) ?_
          rintro _ w26 ⟨A20, c_20, rfl, h28⟩
          refine ⟨⟨[_, _, _, _, _, _], h28⟩, ?_⟩
          refine HJ.op (i := 7) rfl rfl rfl rfl rfl (op_append ttok rfl 0 rfl h28 rfl (Gives.self 13 rfl) rfl rfl rfl rfl rfl rfl (by decide) (by decide) p5) ?_
          rintro _ w27 ⟨A21, c_21, rfl, h29⟩
          refine ⟨⟨[_, _, _, _, _, _], h29⟩, ?_⟩
          refine HJ.run ttok rfl [8] rfl ?_
          refine HJ.op (i := 9) rfl rfl rfl rfl rfl (op_store ttok 2 rfl h29 rfl rfl rfl rfl rfl rfl rfl) ?_
          intro _ w28 h30
          replace h30 : St w0 F0 (boxC b4 31 [.int .i64 r1.1, .slice A14 (r1.2.1 ++ a2.2.1).length c_14, .slice A21 ((r1.2.2.1 ++ ([a1] : List (List UInt8))) ++ a2.2.2.1).length c_21, .slice A15 (r1.2.2.2.1 ++ a2.2.2.2.1).length c_15, .slice A13 (r1.2.2.2.2 ++ a2.2.2.2.2).length c_13] :: _) _ w28 := h30
          refine ⟨⟨[_, _, _, _, _, _], h30⟩, ?_⟩
          refine HJ.fin [(6, .pointer (some ⟨b3, 0, none⟩)), (8, .pointer (some ⟨b4, 0, none⟩))] rfl rfl ?_
          exact thenP_intro ⟨A21, c_21, rfl, ((h30.only [0, 0, 1, 1, 1, 1, 1, 1] rfl).rds [0, 1, 2, 3, 4, 5, 6, 7] rfl)⟩
      · rintro env w29 ⟨A17, c_17, rfl, h31⟩
        refine J.seq ?_
        refine J.region ?_
        refine RJ.q rfl rfl (q_load_box ttok 0 (fun w e => e ▸ h31.wh) rfl rfl rfl rfl rfl) ?_
        refine RJ.op rfl rfl (op_store ttok 5 rfl h31 rfl rfl rfl rfl rfl rfl rfl) ?_
        intro _ w30 h32
        replace h32 : St w0 F0 (boxC b3 31 [.int .i64 r1.1, .slice A14 (r1.2.1 ++ a2.2.1).length c_14, .slice A17 ((r1.2.2.1 ++ ([a1] : List (List UInt8))) ++ a2.2.2.1).length c_17, .slice A15 (r1.2.2.2.1 ++ a2.2.2.2.1).length c_15, .slice A13 (r1.2.2.2.2 ++ a2.2.2.2.2).length c_13] :: _) _ w30 := h32
        refine RJ.run ttok 1 rfl ?_
        refine RJ.fin [(6, .pointer (some ⟨b3, 0, none⟩)), (7, .bool true)] rfl ?_
        refine J.ret ?_
        obtain rfl := Option.some.inj H
        exact ⟨_, _, _, (results_two rfl (rvcons (RV.cell ttok 0 h32 rfl rfl rfl rfl) (rvcons (RV.tmp rfl) rvnil)) rfl), ⟨_, _, _, _, _, _, _, _, rfl, rfl⟩, h32.only [4, 2, 2, 2] rfl⟩
    · replace H := ite_f c2 H
      refine J.skip ?_
      refine J.seq ?_
      refine J.region ?_
      refine RJ.q rfl rfl (q_load_box ttok 0 (fun w e => e ▸ h17.wh) rfl rfl rfl rfl rfl) ?_
      refine RJ.op rfl rfl (op_store ttok 5 rfl h17 rfl rfl rfl rfl rfl rfl rfl) ?_
      intro _ w31 h33
      replace h33 : St w0 F0 (boxC b3 31 [.int .i64 r1.1, .slice A14 (r1.2.1 ++ a2.2.1).length c_14, .slice A10 r1.2.2.1.length c_10, .slice A15 (r1.2.2.2.1 ++ a2.2.2.2.1).length c_15, .slice A13 (r1.2.2.2.2 ++ a2.2.2.2.2).length c_13] :: _) _ w31 := h33
      refine RJ.run ttok 1 rfl ?_
      refine RJ.fin [(6, .pointer (some ⟨b3, 0, none⟩)), (7, .bool true)] rfl ?_
      refine J.ret ?_
      obtain rfl := Option.some.inj H
      exact ⟨_, _, _, (results_two rfl (rvcons (RV.cell ttok 0 h33 rfl rfl rfl rfl) (rvcons (RV.tmp rfl) rvnil)) rfl), ⟨_, _, _, _, _, _, _, _, rfl, rfl⟩, h33.only [3, 4, 2, 2] rfl⟩

/-! sluicegate/sluicegateref13.Blocks -/
def sluicegateref13_Blocks.l0 : Nat → (List (Int)) → (List (Int)) → (Int) → Option (Bool)
  | 0, _, _, _ => none
  | k + 1, a0, a1, x1 => if (decide (x1 < (a0.length : Int))) = true then (if 0 ≤ x1 ∧ x1 < (a0.length : Int) then (if 0 ≤ x1 ∧ x1 < (a1.length : Int) then (if (!decide ((gt a0 x1) = (gt a1 x1))) = true then (some false) else (sluicegateref13_Blocks.l0 k a0 a1 (w64 (x1 + 1)))) else none) else none) else (some true)
def sluicegateref13_Blocks.f (k : Nat) (a0 : List (Int)) (a1 : List (Int)) : Option (Bool) := if (!decide ((a0.length : Int) = (a1.length : Int))) = true then (some false) else (sluicegateref13_Blocks.l0 k a0 a1 0)
set_option maxRecDepth 20000 in
set_option maxHeartbeats 4000000 in
theorem sluicegateref13_Blocks.spec {k : Nat} {a0 : List (Int)} {a1 : List (Int)} {A1 : Option Addr} {c_1 : Nat} {A2 : Option Addr} {c_2 : Nat} {r : Bool} (H : sluicegateref13_Blocks.f k a0 a1 = some r) :
    Spec Try.prog 21 [.slice A1 a0.length c_1, .slice A2 a1.length c_2] [] [rdC 46 (.int .u32) a0 (.slice A1 a0.length c_1), rdC 46 (.int .u32) a1 (.slice A2 a1.length c_2)] (fun v l => v = .bool r ∧ l = []) := by
  refine Spec.enter Try.func21 rfl (by kernel_rfl) (by kernel_rfl) fun w0 F0 h0 => ?_
  unfold sluicegateref13_Blocks.f at H
  refine J.seq ?_
  refine J.region ?_
  refine RJ.run ttok 1 rfl ?_
  refine RJ.fin [(0, .slice A1 a0.length c_1), (1, .slice A2 a1.length c_2)] rfl ?_
  refine J.seq ?_
  refine J.seq ?_
  refine J.region ?_
  refine RJ.run ttok 5 rfl ?_
  refine RJ.fin [(0, .slice A1 a0.length c_1), (1, .slice A2 a1.length c_2), (10, .bool (!decide ((a0.length : Int) = (a1.length : Int))))] rfl ?_
  refine J.cond rfl (fun c1 => ?_) (fun c1 => ?_)
  · replace H := ite_t c1 H
    refine J.seq ?_
    refine J.region ?_
    refine RJ.run ttok 1 rfl ?_
    refine RJ.fin [(4, .bool false)] rfl ?_
    refine J.ret ?_
    obtain rfl := Option.some.inj H
    exact ⟨_, _, _, (results_slots rfl), ⟨rfl, rfl⟩, h0.only [] rfl⟩
  · replace H := ite_f c1 H
    refine J.skip ?_
    refine J.seq ?_
    refine J.seq ?_
    refine J.region ?_
    refine RJ.run ttok 1 rfl ?_
    refine RJ.fin [(0, .slice A1 a0.length c_1), (1, .slice A2 a1.length c_2), (5, .int .i64 0)] rfl ?_
    refine J.block ?_
    have h4 := ((h0.only [] rfl).rds [0, 1] rfl)
    refine J.loop (fun k env w => ∃ (x1 : Int), env = [(0, .slice A1 a0.length c_1), (1, .slice A2 a1.length c_2), (5, .int .i64 x1)] ∧ St w0 F0 [] [rdC 46 (.int .u32) a0 (.slice A1 a0.length c_1), rdC 46 (.int .u32) a1 (.slice A2 a1.length c_2)] w ∧ sluicegateref13_Blocks.l0 k a0 a1 x1 = some r) (k := k) ⟨0, rfl, h4, H⟩ ?_
    rintro k1 env w1 ⟨x1, rfl, h1, H⟩
    cases k1 with
    | zero => exact nomatch (show none = some r from H)
    | succ k1 =>
      rw [sluicegateref13_Blocks.l0] at H
      refine J.seq ?_
      refine J.seq ?_
      refine J.region ?_
      refine RJ.run ttok 4 rfl ?_
      refine RJ.fin [(0, .slice A1 a0.length c_1), (1, .slice A2 a1.length c_2), (5, .int .i64 x1), (14, .bool (decide (x1 < (a0.length : Int))))] rfl ?_
      refine J.cond rfl (fun c2 => ?_) (fun c2 => ?_)
      · replace H := ite_t c2 H
        refine J.skip ?_
        refine J.seq ?_
        refine J.block ?_
        refine J.seq ?_
        refine J.heldSt mix h1 ?_
        have h2 := h1.drew
        refine HJ.run ttok rfl [0, 1, 4, 5] rfl ?_
        obtain ⟨⟨p1, p2⟩, H⟩ := guard_t H
        have e1 := elem_A h2.wh (Gives.self 0 rfl) p1 p2
        refine HJ.q (i := 2) rfl rfl rfl rfl rfl rfl (q_index ttok rfl rfl rfl rfl rfl e1 p1 p2) ?_
        refine HJ.q (i := 3) rfl rfl rfl rfl rfl rfl (q_load_elem (f := 0) ttok rfl (fun w e => e) (Gives.self 0 rfl) p1 p2 rfl rfl rfl rfl rfl) ?_
        obtain ⟨⟨p3, p4⟩, H⟩ := guard_t H
        have e2 := elem_A h2.wh (Gives.self 1 rfl) p3 p4
        refine HJ.q (i := 6) rfl rfl rfl rfl rfl rfl (q_index ttok rfl rfl rfl rfl rfl e2 p3 p4) ?_
        refine HJ.q (i := 7) rfl rfl rfl rfl rfl rfl (q_load_elem (f := 0) ttok rfl (fun w e => e) (Gives.self 1 rfl) p3 p4 rfl rfl rfl rfl rfl) ?_
        refine HJ.run ttok rfl [8] rfl ?_
        refine HJ.fin [(0, .slice A1 a0.length c_1), (1, .slice A2 a1.length c_2), (5, .int .i64 x1), (25, .bool (!decide ((gt a0 x1) = (gt a1 x1))))] rfl rfl ?_
        refine J.cond rfl (fun c3 => ?_) (fun c3 => ?_)
        · replace H := ite_t c3 H
          refine J.seq ?_
          refine J.region ?_
          refine RJ.run ttok 1 rfl ?_
          refine RJ.fin [(4, .bool false)] rfl ?_
          refine J.ret ?_
          obtain rfl := Option.some.inj H
          exact ⟨_, _, _, (results_slots rfl), ⟨rfl, rfl⟩, h2.only [] rfl⟩
        · replace H := ite_f c3 H
          refine J.skip ?_
          refine J.region ?_
          refine RJ.run ttok 3 rfl ?_
          refine RJ.fin [(0, .slice A1 a0.length c_1), (1, .slice A2 a1.length c_2), (5, .int .i64 (w64 (x1 + 1)))] rfl ?_
          have h3 := ((h2.only [] rfl).rds [0, 1] rfl)
          exact ⟨k1, by omega, (w64 (x1 + 1)), rfl, h3, H⟩
      · replace H := ite_f c2 H
        refine J.exit ?_
        refine J.seq ?_
        refine J.region ?_
        refine RJ.run ttok 1 rfl ?_
        refine RJ.fin [(4, .bool true)] rfl ?_
        refine J.ret ?_
        obtain rfl := Option.some.inj H
        exact ⟨_, _, _, (results_slots rfl), ⟨rfl, rfl⟩, h1.only [] rfl⟩

end Go.SK.T
