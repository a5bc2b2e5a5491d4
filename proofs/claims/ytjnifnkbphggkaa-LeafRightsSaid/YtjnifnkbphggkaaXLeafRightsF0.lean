/- The types of the program, and its functions as the code computes them, each proved. -/
import Derived.Test.YtjnifnkbphggkaaKs
import Derived.Test.YtjnifnkbphggkaaProg
set_option linter.unusedVariables false
set_option linter.unusedSimpArgs false
namespace Go.SK.T
open Go Go.SK Go.Proofs
def tt : TT := [(1, ⟨.func, 1, 8, .nilFunc⟩),
  (2, ⟨.int .i64, 1, 8, .int .i64 0⟩),
  (3, ⟨.int .i64, 1, 8, .int .i64 0⟩),
  (4, ⟨.bool, 1, 1, .bool false⟩),
  (5, ⟨.int .u8, 1, 1, .int .u8 0⟩),
  (6, ⟨.int .u8, 1, 1, .int .u8 0⟩),
  (9, ⟨.str, 1, 16, .string ⟨⟨[]⟩⟩⟩),
  (10, ⟨.str, 1, 16, .string ⟨⟨[]⟩⟩⟩),
  (11, ⟨.str, 1, 16, .string ⟨⟨[]⟩⟩⟩),
  (12, ⟨.int .u64, 1, 8, .int .u64 0⟩),
  (15, ⟨.ptr 157, 1, 8, .pointer none⟩),
  (16, ⟨.ptr 160, 1, 8, .pointer none⟩),
  (17, ⟨.ptr 168, 1, 8, .pointer none⟩),
  (20, ⟨.iface, 1, 16, .nilIface⟩),
  (21, ⟨.int .i32, 1, 4, .int .i32 0⟩),
  (22, ⟨.struct [(3, 0, 1), (3, 1, 1), (3, 2, 1), (3, 3, 1), (3, 4, 1), (3, 5, 1), (3, 6, 1), (3, 7, 1)], 8, 64, .agg #[.int .i64 0, .int .i64 0, .int .i64 0, .int .i64 0, .int .i64 0, .int .i64 0, .int .i64 0, .int .i64 0]⟩),
  (23, ⟨.struct [(3, 0, 1), (3, 1, 1), (3, 2, 1), (3, 3, 1), (3, 4, 1), (3, 5, 1), (3, 6, 1), (3, 7, 1)], 8, 64, .agg #[.int .i64 0, .int .i64 0, .int .i64 0, .int .i64 0, .int .i64 0, .int .i64 0, .int .i64 0, .int .i64 0]⟩),
  (24, ⟨.struct [(9, 0, 1), (9, 1, 1), (4, 2, 1)], 3, 40, .agg #[.string ⟨⟨[]⟩⟩, .string ⟨⟨[]⟩⟩, .bool false]⟩),
  (25, ⟨.struct [(9, 0, 1), (9, 1, 1), (4, 2, 1)], 3, 40, .agg #[.string ⟨⟨[]⟩⟩, .string ⟨⟨[]⟩⟩, .bool false]⟩),
  (26, ⟨.slice 46, 1, 24, .slice none 0 0⟩),
  (27, ⟨.slice 9, 1, 24, .slice none 0 0⟩),
  (28, ⟨.slice 48, 1, 24, .slice none 0 0⟩),
  (29, ⟨.slice 50, 1, 24, .slice none 0 0⟩),
  (30, ⟨.struct [(3, 0, 1), (26, 1, 1), (27, 2, 1), (28, 3, 1), (29, 4, 1)], 5, 104, .agg #[.int .i64 0, .slice none 0 0, .slice none 0 0, .slice none 0 0, .slice none 0 0]⟩),
  (31, ⟨.struct [(3, 0, 1), (26, 1, 1), (27, 2, 1), (28, 3, 1), (29, 4, 1)], 5, 104, .agg #[.int .i64 0, .slice none 0 0, .slice none 0 0, .slice none 0 0, .slice none 0 0]⟩),
  (32, ⟨.func, 1, 8, .nilFunc⟩),
  (33, ⟨.func, 1, 8, .nilFunc⟩),
  (35, ⟨.func, 1, 8, .nilFunc⟩),
  (37, ⟨.func, 1, 8, .nilFunc⟩),
  (38, ⟨.func, 1, 8, .nilFunc⟩),
  (39, ⟨.func, 1, 8, .nilFunc⟩),
  (40, ⟨.func, 1, 8, .nilFunc⟩),
  (41, ⟨.func, 1, 8, .nilFunc⟩),
  (42, ⟨.func, 1, 8, .nilFunc⟩),
  (43, ⟨.func, 1, 8, .nilFunc⟩),
  (44, ⟨.func, 1, 8, .nilFunc⟩),
  (45, ⟨.func, 1, 8, .nilFunc⟩),
  (46, ⟨.int .u32, 1, 4, .int .u32 0⟩),
  (47, ⟨.struct [(9, 0, 1), (4, 1, 1), (9, 2, 1)], 3, 40, .agg #[.string ⟨⟨[]⟩⟩, .bool false, .string ⟨⟨[]⟩⟩]⟩),
  (48, ⟨.struct [(9, 0, 1), (4, 1, 1), (9, 2, 1)], 3, 40, .agg #[.string ⟨⟨[]⟩⟩, .bool false, .string ⟨⟨[]⟩⟩]⟩),
  (49, ⟨.struct [(9, 0, 1), (9, 1, 1)], 2, 32, .agg #[.string ⟨⟨[]⟩⟩, .string ⟨⟨[]⟩⟩]⟩),
  (50, ⟨.struct [(9, 0, 1), (9, 1, 1)], 2, 32, .agg #[.string ⟨⟨[]⟩⟩, .string ⟨⟨[]⟩⟩]⟩),
  (51, ⟨.slice 3, 1, 24, .slice none 0 0⟩),
  (52, ⟨.func, 1, 8, .nilFunc⟩),
  (54, ⟨.func, 1, 8, .nilFunc⟩),
  (55, ⟨.map 3 4, 1, 8, .map none⟩),
  (56, ⟨.func, 1, 8, .nilFunc⟩),
  (57, ⟨.func, 1, 8, .nilFunc⟩),
  (59, ⟨.func, 1, 8, .nilFunc⟩),
  (60, ⟨.func, 1, 8, .nilFunc⟩),
  (61, ⟨.func, 1, 8, .nilFunc⟩),
  (62, ⟨.func, 1, 8, .nilFunc⟩),
  (63, ⟨.func, 1, 8, .nilFunc⟩),
  (64, ⟨.func, 1, 8, .nilFunc⟩),
  (65, ⟨.func, 1, 8, .nilFunc⟩),
  (67, ⟨.func, 1, 8, .nilFunc⟩),
  (68, ⟨.func, 1, 8, .nilFunc⟩),
  (69, ⟨.func, 1, 8, .nilFunc⟩),
  (71, ⟨.func, 1, 8, .nilFunc⟩),
  (72, ⟨.func, 1, 8, .nilFunc⟩),
  (73, ⟨.func, 1, 8, .nilFunc⟩),
  (74, ⟨.func, 1, 8, .nilFunc⟩),
  (75, ⟨.func, 1, 8, .nilFunc⟩),
  (76, ⟨.func, 1, 8, .nilFunc⟩),
  (78, ⟨.func, 1, 8, .nilFunc⟩),
  (79, ⟨.func, 1, 8, .nilFunc⟩),
  (80, ⟨.func, 1, 8, .nilFunc⟩),
  (81, ⟨.func, 1, 8, .nilFunc⟩),
  (82, ⟨.func, 1, 8, .nilFunc⟩),
  (83, ⟨.func, 1, 8, .nilFunc⟩),
  (84, ⟨.func, 1, 8, .nilFunc⟩),
  (85, ⟨.func, 1, 8, .nilFunc⟩),
  (86, ⟨.func, 1, 8, .nilFunc⟩),
  (87, ⟨.func, 1, 8, .nilFunc⟩),
  (88, ⟨.ptr 90, 1, 8, .pointer none⟩),
  (89, ⟨.slice 93, 1, 24, .slice none 0 0⟩),
  (90, ⟨.slice 93, 1, 24, .slice none 0 0⟩),
  (91, ⟨.func, 1, 8, .nilFunc⟩),
  (92, ⟨.struct [(3, 0, 1), (3, 1, 1)], 2, 16, .agg #[.int .i64 0, .int .i64 0]⟩),
  (93, ⟨.struct [(3, 0, 1), (3, 1, 1)], 2, 16, .agg #[.int .i64 0, .int .i64 0]⟩),
  (94, ⟨.func, 1, 8, .nilFunc⟩),
  (96, ⟨.func, 1, 8, .nilFunc⟩),
  (97, ⟨.func, 1, 8, .nilFunc⟩),
  (98, ⟨.func, 1, 8, .nilFunc⟩),
  (99, ⟨.func, 1, 8, .nilFunc⟩),
  (100, ⟨.func, 1, 8, .nilFunc⟩),
  (101, ⟨.func, 1, 8, .nilFunc⟩),
  (102, ⟨.func, 1, 8, .nilFunc⟩),
  (103, ⟨.func, 1, 8, .nilFunc⟩),
  (104, ⟨.func, 1, 8, .nilFunc⟩),
  (105, ⟨.func, 1, 8, .nilFunc⟩),
  (106, ⟨.func, 1, 8, .nilFunc⟩),
  (107, ⟨.func, 1, 8, .nilFunc⟩),
  (108, ⟨.func, 1, 8, .nilFunc⟩),
  (109, ⟨.func, 1, 8, .nilFunc⟩),
  (110, ⟨.func, 1, 8, .nilFunc⟩),
  (111, ⟨.iface, 1, 16, .nilIface⟩),
  (112, ⟨.iface, 1, 16, .nilIface⟩),
  (113, ⟨.func, 1, 8, .nilFunc⟩),
  (114, ⟨.func, 1, 8, .nilFunc⟩),
  (115, ⟨.func, 1, 8, .nilFunc⟩),
  (116, ⟨.func, 1, 8, .nilFunc⟩),
  (117, ⟨.func, 1, 8, .nilFunc⟩),
  (118, ⟨.int .u64, 1, 8, .int .u64 0⟩),
  (119, ⟨.func, 1, 8, .nilFunc⟩),
  (120, ⟨.func, 1, 8, .nilFunc⟩),
  (121, ⟨.func, 1, 8, .nilFunc⟩),
  (122, ⟨.func, 1, 8, .nilFunc⟩),
  (123, ⟨.func, 1, 8, .nilFunc⟩),
  (124, ⟨.func, 1, 8, .nilFunc⟩),
  (125, ⟨.func, 1, 8, .nilFunc⟩),
  (126, ⟨.func, 1, 8, .nilFunc⟩),
  (127, ⟨.func, 1, 8, .nilFunc⟩),
  (128, ⟨.func, 1, 8, .nilFunc⟩),
  (129, ⟨.func, 1, 8, .nilFunc⟩),
  (130, ⟨.func, 1, 8, .nilFunc⟩),
  (131, ⟨.func, 1, 8, .nilFunc⟩),
  (132, ⟨.func, 1, 8, .nilFunc⟩),
  (133, ⟨.func, 1, 8, .nilFunc⟩),
  (134, ⟨.func, 1, 8, .nilFunc⟩),
  (135, ⟨.func, 1, 8, .nilFunc⟩),
  (136, ⟨.int .i64, 1, 8, .int .i64 0⟩),
  (138, ⟨.func, 1, 8, .nilFunc⟩),
  (139, ⟨.func, 1, 8, .nilFunc⟩),
  (140, ⟨.func, 1, 8, .nilFunc⟩),
  (141, ⟨.func, 1, 8, .nilFunc⟩),
  (142, ⟨.func, 1, 8, .nilFunc⟩),
  (143, ⟨.func, 1, 8, .nilFunc⟩),
  (144, ⟨.func, 1, 8, .nilFunc⟩),
  (145, ⟨.int .u64, 1, 8, .int .u64 0⟩),
  (146, ⟨.int .u64, 1, 8, .int .u64 0⟩),
  (147, ⟨.func, 1, 8, .nilFunc⟩),
  (148, ⟨.func, 1, 8, .nilFunc⟩),
  (149, ⟨.func, 1, 8, .nilFunc⟩),
  (150, ⟨.ptr 3, 1, 8, .pointer none⟩),
  (151, ⟨.func, 1, 8, .nilFunc⟩),
  (152, ⟨.func, 1, 8, .nilFunc⟩),
  (153, ⟨.ptr 146, 1, 8, .pointer none⟩),
  (154, ⟨.func, 1, 8, .nilFunc⟩),
  (155, ⟨.func, 1, 8, .nilFunc⟩),
  (161, ⟨.int .u8, 1, 1, .int .u8 0⟩),
  (162, ⟨.int .u8, 1, 1, .int .u8 0⟩),
  (163, ⟨.func, 1, 8, .nilFunc⟩),
  (164, ⟨.ptr 5, 1, 8, .pointer none⟩),
  (165, ⟨.int .i32, 1, 4, .int .i32 0⟩),
  (166, ⟨.int .i32, 1, 4, .int .i32 0⟩)]
theorem ttok : TTok Try.prog tt := by
  refine ttok_cons ⟨by kernel_rfl, ⟨_, _, _, Try.underlying1⟩⟩ ?_
  refine ttok_cons ⟨by kernel_rfl, Try.underlying2⟩ ?_
  refine ttok_cons ⟨by kernel_rfl, Try.underlying3⟩ ?_
  refine ttok_cons ⟨by kernel_rfl, Try.underlying4⟩ ?_
  refine ttok_cons ⟨by kernel_rfl, Try.underlying5⟩ ?_
  refine ttok_cons ⟨by kernel_rfl, Try.underlying6⟩ ?_
  refine ttok_cons ⟨by kernel_rfl, Try.underlying9⟩ ?_
  refine ttok_cons ⟨by kernel_rfl, Try.underlying10⟩ ?_
  refine ttok_cons ⟨by kernel_rfl, Try.underlying11⟩ ?_
  refine ttok_cons ⟨by kernel_rfl, Try.underlying12⟩ ?_
  refine ttok_cons ⟨by kernel_rfl, Try.underlying15⟩ ?_
  refine ttok_cons ⟨by kernel_rfl, Try.underlying16⟩ ?_
  refine ttok_cons ⟨by kernel_rfl, Try.underlying17⟩ ?_
  refine ttok_cons ⟨by kernel_rfl, ⟨_, Try.underlying20⟩⟩ ?_
  refine ttok_cons ⟨by kernel_rfl, Try.underlying21⟩ ?_
  refine ttok_cons ⟨by kernel_rfl, ⟨_, Try.underlying22, by kernel_rfl, by kernel_rfl, by kernel_rfl, by kernel_rfl, by kernel_rfl, by kernel_rfl⟩⟩ ?_
  refine ttok_cons ⟨by kernel_rfl, ⟨_, Try.underlying23, by kernel_rfl, by kernel_rfl, by kernel_rfl, by kernel_rfl, by kernel_rfl, by kernel_rfl⟩⟩ ?_
  refine ttok_cons ⟨by kernel_rfl, ⟨_, Try.underlying24, by kernel_rfl, by kernel_rfl, by kernel_rfl, by kernel_rfl, by kernel_rfl, by kernel_rfl⟩⟩ ?_
  refine ttok_cons ⟨by kernel_rfl, ⟨_, Try.underlying25, by kernel_rfl, by kernel_rfl, by kernel_rfl, by kernel_rfl, by kernel_rfl, by kernel_rfl⟩⟩ ?_
  refine ttok_cons ⟨by kernel_rfl, Try.underlying26⟩ ?_
  refine ttok_cons ⟨by kernel_rfl, Try.underlying27⟩ ?_
  refine ttok_cons ⟨by kernel_rfl, Try.underlying28⟩ ?_
  refine ttok_cons ⟨by kernel_rfl, Try.underlying29⟩ ?_
  refine ttok_cons ⟨by kernel_rfl, ⟨_, Try.underlying30, by kernel_rfl, by kernel_rfl, by kernel_rfl, by kernel_rfl, by kernel_rfl, by kernel_rfl⟩⟩ ?_
  refine ttok_cons ⟨by kernel_rfl, ⟨_, Try.underlying31, by kernel_rfl, by kernel_rfl, by kernel_rfl, by kernel_rfl, by kernel_rfl, by kernel_rfl⟩⟩ ?_
  refine ttok_cons ⟨by kernel_rfl, ⟨_, _, _, Try.underlying32⟩⟩ ?_
  refine ttok_cons ⟨by kernel_rfl, ⟨_, _, _, Try.underlying33⟩⟩ ?_
  refine ttok_cons ⟨by kernel_rfl, ⟨_, _, _, Try.underlying35⟩⟩ ?_
  refine ttok_cons ⟨by kernel_rfl, ⟨_, _, _, Try.underlying37⟩⟩ ?_
  refine ttok_cons ⟨by kernel_rfl, ⟨_, _, _, Try.underlying38⟩⟩ ?_
  refine ttok_cons ⟨by kernel_rfl, ⟨_, _, _, Try.underlying39⟩⟩ ?_
  refine ttok_cons ⟨by kernel_rfl, ⟨_, _, _, Try.underlying40⟩⟩ ?_
  refine ttok_cons ⟨by kernel_rfl, ⟨_, _, _, Try.underlying41⟩⟩ ?_
  refine ttok_cons ⟨by kernel_rfl, ⟨_, _, _, Try.underlying42⟩⟩ ?_
  refine ttok_cons ⟨by kernel_rfl, ⟨_, _, _, Try.underlying43⟩⟩ ?_
  refine ttok_cons ⟨by kernel_rfl, ⟨_, _, _, Try.underlying44⟩⟩ ?_
  refine ttok_cons ⟨by kernel_rfl, ⟨_, _, _, Try.underlying45⟩⟩ ?_
  refine ttok_cons ⟨by kernel_rfl, Try.underlying46⟩ ?_
  refine ttok_cons ⟨by kernel_rfl, ⟨_, Try.underlying47, by kernel_rfl, by kernel_rfl, by kernel_rfl, by kernel_rfl, by kernel_rfl, by kernel_rfl⟩⟩ ?_
  refine ttok_cons ⟨by kernel_rfl, ⟨_, Try.underlying48, by kernel_rfl, by kernel_rfl, by kernel_rfl, by kernel_rfl, by kernel_rfl, by kernel_rfl⟩⟩ ?_
  refine ttok_cons ⟨by kernel_rfl, ⟨_, Try.underlying49, by kernel_rfl, by kernel_rfl, by kernel_rfl, by kernel_rfl, by kernel_rfl, by kernel_rfl⟩⟩ ?_
  refine ttok_cons ⟨by kernel_rfl, ⟨_, Try.underlying50, by kernel_rfl, by kernel_rfl, by kernel_rfl, by kernel_rfl, by kernel_rfl, by kernel_rfl⟩⟩ ?_
  refine ttok_cons ⟨by kernel_rfl, Try.underlying51⟩ ?_
  refine ttok_cons ⟨by kernel_rfl, ⟨_, _, _, Try.underlying52⟩⟩ ?_
  refine ttok_cons ⟨by kernel_rfl, ⟨_, _, _, Try.underlying54⟩⟩ ?_
  refine ttok_cons ⟨by kernel_rfl, Try.underlying55⟩ ?_
  refine ttok_cons ⟨by kernel_rfl, ⟨_, _, _, Try.underlying56⟩⟩ ?_
  refine ttok_cons ⟨by kernel_rfl, ⟨_, _, _, Try.underlying57⟩⟩ ?_
  refine ttok_cons ⟨by kernel_rfl, ⟨_, _, _, Try.underlying59⟩⟩ ?_
  refine ttok_cons ⟨by kernel_rfl, ⟨_, _, _, Try.underlying60⟩⟩ ?_
  refine ttok_cons ⟨by kernel_rfl, ⟨_, _, _, Try.underlying61⟩⟩ ?_
  refine ttok_cons ⟨by kernel_rfl, ⟨_, _, _, Try.underlying62⟩⟩ ?_
  refine ttok_cons ⟨by kernel_rfl, ⟨_, _, _, Try.underlying63⟩⟩ ?_
  refine ttok_cons ⟨by kernel_rfl, ⟨_, _, _, Try.underlying64⟩⟩ ?_
  refine ttok_cons ⟨by kernel_rfl, ⟨_, _, _, Try.underlying65⟩⟩ ?_
  refine ttok_cons ⟨by kernel_rfl, ⟨_, _, _, Try.underlying67⟩⟩ ?_
  refine ttok_cons ⟨by kernel_rfl, ⟨_, _, _, Try.underlying68⟩⟩ ?_
  refine ttok_cons ⟨by kernel_rfl, ⟨_, _, _, Try.underlying69⟩⟩ ?_
  refine ttok_cons ⟨by kernel_rfl, ⟨_, _, _, Try.underlying71⟩⟩ ?_
  refine ttok_cons ⟨by kernel_rfl, ⟨_, _, _, Try.underlying72⟩⟩ ?_
  refine ttok_cons ⟨by kernel_rfl, ⟨_, _, _, Try.underlying73⟩⟩ ?_
  refine ttok_cons ⟨by kernel_rfl, ⟨_, _, _, Try.underlying74⟩⟩ ?_
  refine ttok_cons ⟨by kernel_rfl, ⟨_, _, _, Try.underlying75⟩⟩ ?_
  refine ttok_cons ⟨by kernel_rfl, ⟨_, _, _, Try.underlying76⟩⟩ ?_
  refine ttok_cons ⟨by kernel_rfl, ⟨_, _, _, Try.underlying78⟩⟩ ?_
  refine ttok_cons ⟨by kernel_rfl, ⟨_, _, _, Try.underlying79⟩⟩ ?_
  refine ttok_cons ⟨by kernel_rfl, ⟨_, _, _, Try.underlying80⟩⟩ ?_
  refine ttok_cons ⟨by kernel_rfl, ⟨_, _, _, Try.underlying81⟩⟩ ?_
  refine ttok_cons ⟨by kernel_rfl, ⟨_, _, _, Try.underlying82⟩⟩ ?_
  refine ttok_cons ⟨by kernel_rfl, ⟨_, _, _, Try.underlying83⟩⟩ ?_
  refine ttok_cons ⟨by kernel_rfl, ⟨_, _, _, Try.underlying84⟩⟩ ?_
  refine ttok_cons ⟨by kernel_rfl, ⟨_, _, _, Try.underlying85⟩⟩ ?_
  refine ttok_cons ⟨by kernel_rfl, ⟨_, _, _, Try.underlying86⟩⟩ ?_
  refine ttok_cons ⟨by kernel_rfl, ⟨_, _, _, Try.underlying87⟩⟩ ?_
  refine ttok_cons ⟨by kernel_rfl, Try.underlying88⟩ ?_
  refine ttok_cons ⟨by kernel_rfl, Try.underlying89⟩ ?_
  refine ttok_cons ⟨by kernel_rfl, Try.underlying90⟩ ?_
  refine ttok_cons ⟨by kernel_rfl, ⟨_, _, _, Try.underlying91⟩⟩ ?_
  refine ttok_cons ⟨by kernel_rfl, ⟨_, Try.underlying92, by kernel_rfl, by kernel_rfl, by kernel_rfl, by kernel_rfl, by kernel_rfl, by kernel_rfl⟩⟩ ?_
  refine ttok_cons ⟨by kernel_rfl, ⟨_, Try.underlying93, by kernel_rfl, by kernel_rfl, by kernel_rfl, by kernel_rfl, by kernel_rfl, by kernel_rfl⟩⟩ ?_
  refine ttok_cons ⟨by kernel_rfl, ⟨_, _, _, Try.underlying94⟩⟩ ?_
  refine ttok_cons ⟨by kernel_rfl, ⟨_, _, _, Try.underlying96⟩⟩ ?_
  refine ttok_cons ⟨by kernel_rfl, ⟨_, _, _, Try.underlying97⟩⟩ ?_
  refine ttok_cons ⟨by kernel_rfl, ⟨_, _, _, Try.underlying98⟩⟩ ?_
  refine ttok_cons ⟨by kernel_rfl, ⟨_, _, _, Try.underlying99⟩⟩ ?_
  refine ttok_cons ⟨by kernel_rfl, ⟨_, _, _, Try.underlying100⟩⟩ ?_
  refine ttok_cons ⟨by kernel_rfl, ⟨_, _, _, Try.underlying101⟩⟩ ?_
  refine ttok_cons ⟨by kernel_rfl, ⟨_, _, _, Try.underlying102⟩⟩ ?_
  refine ttok_cons ⟨by kernel_rfl, ⟨_, _, _, Try.underlying103⟩⟩ ?_
  refine ttok_cons ⟨by kernel_rfl, ⟨_, _, _, Try.underlying104⟩⟩ ?_
  refine ttok_cons ⟨by kernel_rfl, ⟨_, _, _, Try.underlying105⟩⟩ ?_
  refine ttok_cons ⟨by kernel_rfl, ⟨_, _, _, Try.underlying106⟩⟩ ?_
  refine ttok_cons ⟨by kernel_rfl, ⟨_, _, _, Try.underlying107⟩⟩ ?_
  refine ttok_cons ⟨by kernel_rfl, ⟨_, _, _, Try.underlying108⟩⟩ ?_
  refine ttok_cons ⟨by kernel_rfl, ⟨_, _, _, Try.underlying109⟩⟩ ?_
  refine ttok_cons ⟨by kernel_rfl, ⟨_, _, _, Try.underlying110⟩⟩ ?_
  refine ttok_cons ⟨by kernel_rfl, ⟨_, Try.underlying111⟩⟩ ?_
  refine ttok_cons ⟨by kernel_rfl, ⟨_, Try.underlying112⟩⟩ ?_
  refine ttok_cons ⟨by kernel_rfl, ⟨_, _, _, Try.underlying113⟩⟩ ?_
  refine ttok_cons ⟨by kernel_rfl, ⟨_, _, _, Try.underlying114⟩⟩ ?_
  refine ttok_cons ⟨by kernel_rfl, ⟨_, _, _, Try.underlying115⟩⟩ ?_
  refine ttok_cons ⟨by kernel_rfl, ⟨_, _, _, Try.underlying116⟩⟩ ?_
  refine ttok_cons ⟨by kernel_rfl, ⟨_, _, _, Try.underlying117⟩⟩ ?_
  refine ttok_cons ⟨by kernel_rfl, Try.underlying118⟩ ?_
  refine ttok_cons ⟨by kernel_rfl, ⟨_, _, _, Try.underlying119⟩⟩ ?_
  refine ttok_cons ⟨by kernel_rfl, ⟨_, _, _, Try.underlying120⟩⟩ ?_
  refine ttok_cons ⟨by kernel_rfl, ⟨_, _, _, Try.underlying121⟩⟩ ?_
  refine ttok_cons ⟨by kernel_rfl, ⟨_, _, _, Try.underlying122⟩⟩ ?_
  refine ttok_cons ⟨by kernel_rfl, ⟨_, _, _, Try.underlying123⟩⟩ ?_
  refine ttok_cons ⟨by kernel_rfl, ⟨_, _, _, Try.underlying124⟩⟩ ?_
  refine ttok_cons ⟨by kernel_rfl, ⟨_, _, _, Try.underlying125⟩⟩ ?_
  refine ttok_cons ⟨by kernel_rfl, ⟨_, _, _, Try.underlying126⟩⟩ ?_
  refine ttok_cons ⟨by kernel_rfl, ⟨_, _, _, Try.underlying127⟩⟩ ?_
  refine ttok_cons ⟨by kernel_rfl, ⟨_, _, _, Try.underlying128⟩⟩ ?_
  refine ttok_cons ⟨by kernel_rfl, ⟨_, _, _, Try.underlying129⟩⟩ ?_
  refine ttok_cons ⟨by kernel_rfl, ⟨_, _, _, Try.underlying130⟩⟩ ?_
  refine ttok_cons ⟨by kernel_rfl, ⟨_, _, _, Try.underlying131⟩⟩ ?_
  refine ttok_cons ⟨by kernel_rfl, ⟨_, _, _, Try.underlying132⟩⟩ ?_
  refine ttok_cons ⟨by kernel_rfl, ⟨_, _, _, Try.underlying133⟩⟩ ?_
  refine ttok_cons ⟨by kernel_rfl, ⟨_, _, _, Try.underlying134⟩⟩ ?_
  refine ttok_cons ⟨by kernel_rfl, ⟨_, _, _, Try.underlying135⟩⟩ ?_
  refine ttok_cons ⟨by kernel_rfl, Try.underlying136⟩ ?_
  refine ttok_cons ⟨by kernel_rfl, ⟨_, _, _, Try.underlying138⟩⟩ ?_
  refine ttok_cons ⟨by kernel_rfl, ⟨_, _, _, Try.underlying139⟩⟩ ?_
  refine ttok_cons ⟨by kernel_rfl, ⟨_, _, _, Try.underlying140⟩⟩ ?_
  refine ttok_cons ⟨by kernel_rfl, ⟨_, _, _, Try.underlying141⟩⟩ ?_
  refine ttok_cons ⟨by kernel_rfl, ⟨_, _, _, Try.underlying142⟩⟩ ?_
  refine ttok_cons ⟨by kernel_rfl, ⟨_, _, _, Try.underlying143⟩⟩ ?_
  refine ttok_cons ⟨by kernel_rfl, ⟨_, _, _, Try.underlying144⟩⟩ ?_
  refine ttok_cons ⟨by kernel_rfl, Try.underlying145⟩ ?_
  refine ttok_cons ⟨by kernel_rfl, Try.underlying146⟩ ?_
  refine ttok_cons ⟨by kernel_rfl, ⟨_, _, _, Try.underlying147⟩⟩ ?_
  refine ttok_cons ⟨by kernel_rfl, ⟨_, _, _, Try.underlying148⟩⟩ ?_
  refine ttok_cons ⟨by kernel_rfl, ⟨_, _, _, Try.underlying149⟩⟩ ?_
  refine ttok_cons ⟨by kernel_rfl, Try.underlying150⟩ ?_
  refine ttok_cons ⟨by kernel_rfl, ⟨_, _, _, Try.underlying151⟩⟩ ?_
  refine ttok_cons ⟨by kernel_rfl, ⟨_, _, _, Try.underlying152⟩⟩ ?_
  refine ttok_cons ⟨by kernel_rfl, Try.underlying153⟩ ?_
  refine ttok_cons ⟨by kernel_rfl, ⟨_, _, _, Try.underlying154⟩⟩ ?_
  refine ttok_cons ⟨by kernel_rfl, ⟨_, _, _, Try.underlying155⟩⟩ ?_
  refine ttok_cons ⟨by kernel_rfl, Try.underlying161⟩ ?_
  refine ttok_cons ⟨by kernel_rfl, Try.underlying162⟩ ?_
  refine ttok_cons ⟨by kernel_rfl, ⟨_, _, _, Try.underlying163⟩⟩ ?_
  refine ttok_cons ⟨by kernel_rfl, Try.underlying164⟩ ?_
  refine ttok_cons ⟨by kernel_rfl, Try.underlying165⟩ ?_
  refine ttok_cons ⟨by kernel_rfl, Try.underlying166⟩ ?_
  exact ttok_nil _
theorem mix : Try.prog.follows .mixedOrders = true := by kernel_rfl
theorem cmpstr : CmpStr Try.prog 123 := CmpStr.of Try.func123 (by kernel_rfl) (by kernel_rfl) (by kernel_rfl) rfl
/-! sluicegate/sluicegatelaw11.great -/
def sluicegatelaw11_great.l1 : Nat → (List (List UInt8 × List UInt8)) → (List (List UInt8 × Bool × List UInt8)) → (Int) → Option (Bool)
  | 0, _, _, _ => none
  | k + 1, a0, a1, x2 => if (decide (x2 < (a1.length : Int))) = true then (if (decide (x2 < 200)) = true then (if 0 ≤ x2 ∧ x2 < (a1.length : Int) then (if (decide (300 < (((gt a1 x2).1).length : Int))) = true then (some true) else (sluicegatelaw11_great.l1 k a0 a1 (w64 (x2 + 1)))) else none) else (if (decide (120 < (a0.length : Int))) = true then (some true) else (some (decide (120 < (a1.length : Int)))))) else (if (decide (120 < (a0.length : Int))) = true then (some true) else (some (decide (120 < (a1.length : Int)))))
def sluicegatelaw11_great.l2 : Nat → (List (List UInt8 × List UInt8)) → (List (List UInt8 × Bool × List UInt8)) → (Int) → Option (Bool)
  | 0, _, _, _ => none
  | k + 1, a0, a1, x3 => if (decide (x3 < (a1.length : Int))) = true then (if (decide (x3 < 200)) = true then (if 0 ≤ x3 ∧ x3 < (a1.length : Int) then (if (decide (300 < (((gt a1 x3).1).length : Int))) = true then (some true) else (sluicegatelaw11_great.l2 k a0 a1 (w64 (x3 + 1)))) else none) else (if (decide (120 < (a0.length : Int))) = true then (some true) else (some (decide (120 < (a1.length : Int)))))) else (if (decide (120 < (a0.length : Int))) = true then (some true) else (some (decide (120 < (a1.length : Int)))))
def sluicegatelaw11_great.l0 : Nat → (List (List UInt8 × List UInt8)) → (List (List UInt8 × Bool × List UInt8)) → (Int) → Option (Bool)
  | 0, _, _, _ => none
  | k + 1, a0, a1, x1 => if (decide (x1 < (a0.length : Int))) = true then (if (decide (x1 < 200)) = true then (if 0 ≤ x1 ∧ x1 < (a0.length : Int) then (if (decide (300 < (((gt a0 x1).1).length : Int))) = true then (some true) else (sluicegatelaw11_great.l0 k a0 a1 (w64 (x1 + 1)))) else none) else (sluicegatelaw11_great.l1 k a0 a1 0)) else (sluicegatelaw11_great.l2 k a0 a1 0)
def sluicegatelaw11_great.f (k : Nat) (a0 : List (List UInt8 × List UInt8)) (a1 : List (List UInt8 × Bool × List UInt8)) : Option (Bool) := sluicegatelaw11_great.l0 k a0 a1 0
set_option maxRecDepth 20000 in
set_option maxHeartbeats 4000000 in
theorem sluicegatelaw11_great.spec {k : Nat} {a0 : List (List UInt8 × List UInt8)} {a1 : List (List UInt8 × Bool × List UInt8)} {A1 : Option Addr} {c_1 : Nat} {A2 : Option Addr} {c_2 : Nat} {r : Bool} (H : sluicegatelaw11_great.f k a0 a1 = some r) :
    Spec Try.prog 40 [.slice A1 a0.length c_1, .slice A2 a1.length c_2] [] [rdC 50 (.pair .str .str) a0 (.slice A1 a0.length c_1), rdC 48 (.pair .str (.pair .bool .str)) a1 (.slice A2 a1.length c_2)] (fun v l => v = .bool r ∧ l = []) := by
  refine Spec.enter Try.func40 rfl (by kernel_rfl) (by kernel_rfl) fun w0 F0 h0 => ?_
  unfold sluicegatelaw11_great.f at H
  refine J.seq ?_
  refine J.region ?_
  refine RJ.run ttok 1 rfl ?_
  refine RJ.fin [(0, .slice A1 a0.length c_1), (1, .slice A2 a1.length c_2)] rfl ?_
  refine J.seq ?_
  refine J.seq ?_
  refine J.region ?_
  refine RJ.run ttok 1 rfl ?_
  refine RJ.fin [(0, .slice A1 a0.length c_1), (1, .slice A2 a1.length c_2), (5, .int .i64 0)] rfl ?_
  refine J.block ?_
  have h9 := ((h0.only [] rfl).rds [0, 1] rfl)
  refine J.loop (fun k env w => ∃ (x1 : Int), env = [(0, .slice A1 a0.length c_1), (1, .slice A2 a1.length c_2), (5, .int .i64 x1)] ∧ St w0 F0 [] [rdC 50 (.pair .str .str) a0 (.slice A1 a0.length c_1), rdC 48 (.pair .str (.pair .bool .str)) a1 (.slice A2 a1.length c_2)] w ∧ sluicegatelaw11_great.l0 k a0 a1 x1 = some r) (k := k) ⟨0, rfl, h9, H⟩ ?_
  rintro k1 env w1 ⟨x1, rfl, h1, H⟩
  cases k1 with
  | zero => exact nomatch (show none = some r from H)
  | succ k1 =>
    rw [sluicegatelaw11_great.l0] at H
    refine J.seq ?_
    refine J.seq ?_
    refine J.region ?_
    refine RJ.run ttok 5 rfl ?_
    rcases Bool.eq_false_or_eq_true (decide (x1 < (a0.length : Int))) with c1 | c1
    · replace H := ite_t c1 H
      refine RJ.know (t := 11) rfl (congrArg Value.bool c1) ?_
      refine RJ.run ttok 3 rfl ?_
      refine RJ.fin [(0, .slice A1 a0.length c_1), (1, .slice A2 a1.length c_2), (5, .int .i64 x1), (14, .bool (decide (x1 < 200)))] rfl ?_
      refine J.cond rfl (fun c2 => ?_) (fun c2 => ?_)
      · replace H := ite_t c2 H
        refine J.skip ?_
        refine J.seq ?_
        refine J.block ?_
        refine J.seq ?_
        refine J.region ?_
        refine RJ.run ttok 2 rfl ?_
        obtain ⟨⟨p1, p2⟩, H⟩ := guard_t H
        have e1 := elem_A h1.wh (Gives.self 0 rfl) p1 p2
        refine RJ.q rfl rfl (q_index ttok rfl rfl rfl rfl rfl e1 p1 p2) ?_
        refine RJ.run ttok 1 rfl ?_
        refine RJ.q rfl rfl (q_load_elem (f := 0) ttok rfl (fun w e => e ▸ h1.wh) (Gives.self 0 rfl) p1 p2 rfl rfl rfl rfl rfl) ?_
        refine RJ.run ttok 2 rfl ?_
        refine RJ.fin [(0, .slice A1 a0.length c_1), (1, .slice A2 a1.length c_2), (5, .int .i64 x1), (23, .bool (decide (300 < (((gt a0 x1).1).length : Int))))] rfl ?_
        refine J.cond rfl (fun c3 => ?_) (fun c3 => ?_)
        · replace H := ite_t c3 H
          refine J.seq ?_
          refine J.region ?_
          refine RJ.run ttok 1 rfl ?_
          refine RJ.fin [(4, .bool true)] rfl ?_
          refine J.ret ?_
          obtain rfl := Option.some.inj H
          exact ⟨_, _, _, (results_slots rfl), ⟨rfl, rfl⟩, h1.only [] rfl⟩
        · replace H := ite_f c3 H
          refine J.skip ?_
          refine J.region ?_
          refine RJ.run ttok 3 rfl ?_
          refine RJ.fin [(0, .slice A1 a0.length c_1), (1, .slice A2 a1.length c_2), (5, .int .i64 (w64 (x1 + 1)))] rfl ?_
          have h2 := ((h1.only [] rfl).rds [0, 1] rfl)
          exact ⟨k1, by omega, (w64 (x1 + 1)), rfl, h2, H⟩
      · replace H := ite_f c2 H
        refine J.exit ?_
        refine J.seq ?_
        refine J.seq ?_
        refine J.region ?_
        refine RJ.run ttok 1 rfl ?_
        refine RJ.fin [(0, .slice A1 a0.length c_1), (1, .slice A2 a1.length c_2), (6, .int .i64 0)] rfl ?_
        refine J.block ?_
        have h5 := ((h1.only [] rfl).rds [0, 1] rfl)
        refine J.loop (fun k env w => ∃ (x2 : Int), env = [(0, .slice A1 a0.length c_1), (1, .slice A2 a1.length c_2), (6, .int .i64 x2)] ∧ St w0 F0 [] [rdC 50 (.pair .str .str) a0 (.slice A1 a0.length c_1), rdC 48 (.pair .str (.pair .bool .str)) a1 (.slice A2 a1.length c_2)] w ∧ sluicegatelaw11_great.l1 k a0 a1 x2 = some r) (k := k1) ⟨0, rfl, h5, H⟩ ?_
        rintro k2 env w2 ⟨x2, rfl, h3, H⟩
        cases k2 with
        | zero => exact nomatch (show none = some r from H)
        | succ k2 =>
          rw [sluicegatelaw11_great.l1] at H
          refine J.seq ?_
          refine J.seq ?_
          refine J.region ?_
          refine RJ.run ttok 5 rfl ?_
          rcases Bool.eq_false_or_eq_true (decide (x2 < (a1.length : Int))) with c4 | c4
          · replace H := ite_t c4 H
            refine RJ.know (t := 28) rfl (congrArg Value.bool c4) ?_
            refine RJ.run ttok 3 rfl ?_
            refine RJ.fin [(0, .slice A1 a0.length c_1), (1, .slice A2 a1.length c_2), (6, .int .i64 x2), (31, .bool (decide (x2 < 200)))] rfl ?_
            refine J.cond rfl (fun c5 => ?_) (fun c5 => ?_)
            · replace H := ite_t c5 H
              refine J.skip ?_
              refine J.seq ?_
              refine J.block ?_
              refine J.seq ?_
              refine J.region ?_
              refine RJ.run ttok 2 rfl ?_
              obtain ⟨⟨p3, p4⟩, H⟩ := guard_t H
              have e2 := elem_A h3.wh (Gives.self 1 rfl) p3 p4
              refine RJ.q rfl rfl (q_index ttok rfl rfl rfl rfl rfl e2 p3 p4) ?_
              refine RJ.run ttok 1 rfl ?_
              refine RJ.q rfl rfl (q_load_elem (f := 0) ttok rfl (fun w e => e ▸ h3.wh) (Gives.self 1 rfl) p3 p4 rfl rfl rfl rfl rfl) ?_
              refine RJ.run ttok 2 rfl ?_
              refine RJ.fin [(0, .slice A1 a0.length c_1), (1, .slice A2 a1.length c_2), (6, .int .i64 x2), (40, .bool (decide (300 < (((gt a1 x2).1).length : Int))))] rfl ?_
              refine J.cond rfl (fun c6 => ?_) (fun c6 => ?_)
              · replace H := ite_t c6 H
                refine J.seq ?_
                refine J.region ?_
                refine RJ.run ttok 1 rfl ?_
                refine RJ.fin [(4, .bool true)] rfl ?_
                refine J.ret ?_
                obtain rfl := Option.some.inj H
                exact ⟨_, _, _, (results_slots rfl), ⟨rfl, rfl⟩, h3.only [] rfl⟩
              · replace H := ite_f c6 H
                refine J.skip ?_
                refine J.region ?_
                refine RJ.run ttok 3 rfl ?_
                refine RJ.fin [(0, .slice A1 a0.length c_1), (1, .slice A2 a1.length c_2), (6, .int .i64 (w64 (x2 + 1)))] rfl ?_
                have h4 := ((h3.only [] rfl).rds [0, 1] rfl)
                exact ⟨k2, by omega, (w64 (x2 + 1)), rfl, h4, H⟩
            · replace H := ite_f c5 H
              refine J.exit ?_
              refine J.seq ?_
              refine J.region ?_
              refine RJ.run ttok 4 rfl ?_
              rcases Bool.eq_false_or_eq_true (decide (120 < (a0.length : Int))) with c7 | c7
              · replace H := ite_t c7 H
                refine RJ.know (t := 44) rfl (congrArg Value.bool c7) ?_
                refine RJ.run ttok 5 rfl ?_
                refine RJ.fin [(4, .bool true)] rfl ?_
                refine J.ret ?_
                obtain rfl := Option.some.inj H
                exact ⟨_, _, _, (results_slots rfl), ⟨rfl, rfl⟩, h3.only [] rfl⟩
              · replace H := ite_f c7 H
                refine RJ.know (t := 44) rfl (congrArg Value.bool c7) ?_
                refine RJ.run ttok 5 rfl ?_
                refine RJ.fin [(4, .bool (decide (120 < (a1.length : Int))))] rfl ?_
                refine J.ret ?_
                obtain rfl := Option.some.inj H
                exact ⟨_, _, _, (results_slots rfl), ⟨rfl, rfl⟩, h3.only [] rfl⟩
          · replace H := ite_f c4 H
            refine RJ.know (t := 28) rfl (congrArg Value.bool c4) ?_
            refine RJ.run ttok 3 rfl ?_
            refine RJ.fin [(0, .slice A1 a0.length c_1), (1, .slice A2 a1.length c_2), (6, .int .i64 x2), (31, .bool false)] rfl ?_
            refine J.condF rfl ?_
            refine J.exit ?_
            refine J.seq ?_
            refine J.region ?_
            refine RJ.run ttok 4 rfl ?_
            rcases Bool.eq_false_or_eq_true (decide (120 < (a0.length : Int))) with c8 | c8
            · replace H := ite_t c8 H
              refine RJ.know (t := 44) rfl (congrArg Value.bool c8) ?_
              refine RJ.run ttok 5 rfl ?_
              refine RJ.fin [(4, .bool true)] rfl ?_
              refine J.ret ?_
              obtain rfl := Option.some.inj H
              exact ⟨_, _, _, (results_slots rfl), ⟨rfl, rfl⟩, h3.only [] rfl⟩
            · replace H := ite_f c8 H
              refine RJ.know (t := 44) rfl (congrArg Value.bool c8) ?_
              refine RJ.run ttok 5 rfl ?_
              refine RJ.fin [(4, .bool (decide (120 < (a1.length : Int))))] rfl ?_
              refine J.ret ?_
              obtain rfl := Option.some.inj H
              exact ⟨_, _, _, (results_slots rfl), ⟨rfl, rfl⟩, h3.only [] rfl⟩
    · replace H := ite_f c1 H
      refine RJ.know (t := 11) rfl (congrArg Value.bool c1) ?_
      refine RJ.run ttok 3 rfl ?_
      refine RJ.fin [(0, .slice A1 a0.length c_1), (1, .slice A2 a1.length c_2), (5, .int .i64 x1), (14, .bool false)] rfl ?_
      refine J.condF rfl ?_
      refine J.exit ?_
      refine J.seq ?_
      refine J.seq ?_
      refine J.region ?_
      refine RJ.run ttok 1 rfl ?_
      refine RJ.fin [(0, .slice A1 a0.length c_1), (1, .slice A2 a1.length c_2), (6, .int .i64 0)] rfl ?_
      refine J.block ?_
      have h8 := ((h1.only [] rfl).rds [0, 1] rfl)
      refine J.loop (fun k env w => ∃ (x3 : Int), env = [(0, .slice A1 a0.length c_1), (1, .slice A2 a1.length c_2), (6, .int .i64 x3)] ∧ St w0 F0 [] [rdC 50 (.pair .str .str) a0 (.slice A1 a0.length c_1), rdC 48 (.pair .str (.pair .bool .str)) a1 (.slice A2 a1.length c_2)] w ∧ sluicegatelaw11_great.l2 k a0 a1 x3 = some r) (k := k1) ⟨0, rfl, h8, H⟩ ?_
      rintro k3 env w3 ⟨x3, rfl, h6, H⟩
      cases k3 with
      | zero => exact nomatch (show none = some r from H)
      | succ k3 =>
        rw [sluicegatelaw11_great.l2] at H
        refine J.seq ?_
        refine J.seq ?_
        refine J.region ?_
        refine RJ.run ttok 5 rfl ?_
        rcases Bool.eq_false_or_eq_true (decide (x3 < (a1.length : Int))) with c9 | c9
        · replace H := ite_t c9 H
          refine RJ.know (t := 28) rfl (congrArg Value.bool c9) ?_
          refine RJ.run ttok 3 rfl ?_
          refine RJ.fin [(0, .slice A1 a0.length c_1), (1, .slice A2 a1.length c_2), (6, .int .i64 x3), (31, .bool (decide (x3 < 200)))] rfl ?_
          refine J.cond rfl (fun c10 => ?_) (fun c10 => ?_)
          · replace H := ite_t c10 H
            refine J.skip ?_
            refine J.seq ?_
            refine J.block ?_
            refine J.seq ?_
            refine J.region ?_
            refine RJ.run ttok 2 rfl ?_
            obtain ⟨⟨p5, p6⟩, H⟩ := guard_t H
            have e3 := elem_A h6.wh (Gives.self 1 rfl) p5 p6
            refine RJ.q rfl rfl (q_index ttok rfl rfl rfl rfl rfl e3 p5 p6) ?_
            refine RJ.run ttok 1 rfl ?_
            refine RJ.q rfl rfl (q_load_elem (f := 0) ttok rfl (fun w e => e ▸ h6.wh) (Gives.self 1 rfl) p5 p6 rfl rfl rfl rfl rfl) ?_
            refine RJ.run ttok 2 rfl ?_
            refine RJ.fin [(0, .slice A1 a0.length c_1), (1, .slice A2 a1.length c_2), (6, .int .i64 x3), (40, .bool (decide (300 < (((gt a1 x3).1).length : Int))))] rfl ?_
            refine J.cond rfl (fun c11 => ?_) (fun c11 => ?_)
            · replace H := ite_t c11 H
              refine J.seq ?_
              refine J.region ?_
              refine RJ.run ttok 1 rfl ?_
              refine RJ.fin [(4, .bool true)] rfl ?_
              refine J.ret ?_
              obtain rfl := Option.some.inj H
              exact ⟨_, _, _, (results_slots rfl), ⟨rfl, rfl⟩, h6.only [] rfl⟩
            · replace H := ite_f c11 H
              refine J.skip ?_
              refine J.region ?_
              refine RJ.run ttok 3 rfl ?_
              refine RJ.fin [(0, .slice A1 a0.length c_1), (1, .slice A2 a1.length c_2), (6, .int .i64 (w64 (x3 + 1)))] rfl ?_
              have h7 := ((h6.only [] rfl).rds [0, 1] rfl)
              exact ⟨k3, by omega, (w64 (x3 + 1)), rfl, h7, H⟩
          · replace H := ite_f c10 H
            refine J.exit ?_
            refine J.seq ?_
            refine J.region ?_
            refine RJ.run ttok 4 rfl ?_
            rcases Bool.eq_false_or_eq_true (decide (120 < (a0.length : Int))) with c12 | c12
            · replace H := ite_t c12 H
              refine RJ.know (t := 44) rfl (congrArg Value.bool c12) ?_
              refine RJ.run ttok 5 rfl ?_
              refine RJ.fin [(4, .bool true)] rfl ?_
              refine J.ret ?_
              obtain rfl := Option.some.inj H
              exact ⟨_, _, _, (results_slots rfl), ⟨rfl, rfl⟩, h6.only [] rfl⟩
            · replace H := ite_f c12 H
              refine RJ.know (t := 44) rfl (congrArg Value.bool c12) ?_
              refine RJ.run ttok 5 rfl ?_
              refine RJ.fin [(4, .bool (decide (120 < (a1.length : Int))))] rfl ?_
              refine J.ret ?_
              obtain rfl := Option.some.inj H
              exact ⟨_, _, _, (results_slots rfl), ⟨rfl, rfl⟩, h6.only [] rfl⟩
        · replace H := ite_f c9 H
          refine RJ.know (t := 28) rfl (congrArg Value.bool c9) ?_
          refine RJ.run ttok 3 rfl ?_
          refine RJ.fin [(0, .slice A1 a0.length c_1), (1, .slice A2 a1.length c_2), (6, .int .i64 x3), (31, .bool false)] rfl ?_
          refine J.condF rfl ?_
          refine J.exit ?_
          refine J.seq ?_
          refine J.region ?_
          refine RJ.run ttok 4 rfl ?_
          rcases Bool.eq_false_or_eq_true (decide (120 < (a0.length : Int))) with c13 | c13
          · replace H := ite_t c13 H
            refine RJ.know (t := 44) rfl (congrArg Value.bool c13) ?_
            refine RJ.run ttok 5 rfl ?_
            refine RJ.fin [(4, .bool true)] rfl ?_
            refine J.ret ?_
            obtain rfl := Option.some.inj H
            exact ⟨_, _, _, (results_slots rfl), ⟨rfl, rfl⟩, h6.only [] rfl⟩
          · replace H := ite_f c13 H
            refine RJ.know (t := 44) rfl (congrArg Value.bool c13) ?_
            refine RJ.run ttok 5 rfl ?_
            refine RJ.fin [(4, .bool (decide (120 < (a1.length : Int))))] rfl ?_
            refine J.ret ?_
            obtain rfl := Option.some.inj H
            exact ⟨_, _, _, (results_slots rfl), ⟨rfl, rfl⟩, h6.only [] rfl⟩

/-! slices.Clone[[]sluicegate/api.Pair,sluicegate/api.Pair] -/
def slices_Clone_api_Pair_api_Pair.f (a0 : List (List UInt8 × List UInt8)) : Option ((List (List UInt8 × List UInt8))) := if (([] : List (List UInt8 × List UInt8)).length + a0.length) * 32 ≤ 140737488355328 then (some (([] : List (List UInt8 × List UInt8)) ++ a0)) else none
set_option maxRecDepth 20000 in
set_option maxHeartbeats 4000000 in
theorem slices_Clone_api_Pair_api_Pair.spec {a0 : List (List UInt8 × List UInt8)} {A1 : Option Addr} {c_1 : Nat} {r : (List (List UInt8 × List UInt8))} (H : slices_Clone_api_Pair_api_Pair.f a0 = some r) :
    Spec Try.prog 66 [.slice A1 a0.length c_1] [] [rdC 50 (.pair .str .str) a0 (.slice A1 a0.length c_1)] (fun v l => ∃ (A_0 : Option Addr) (c_0 : Nat), v = .slice A_0 r.length c_0 ∧ l = [ownC 50 (.pair .str .str) r (.slice A_0 r.length c_0)]) := by
  refine Spec.enter Try.func66 rfl (by kernel_rfl) (by kernel_rfl) fun w0 F0 h0 => ?_
  unfold slices_Clone_api_Pair_api_Pair.f at H
  refine J.seq ?_
  refine J.region ?_
  refine RJ.run ttok 1 rfl ?_
  refine RJ.fin [(0, .slice A1 a0.length c_1)] rfl ?_
  refine J.seq ?_
  refine J.seq ?_
  refine J.region ?_
  refine RJ.run ttok 2 rfl ?_
  refine RJ.fin [(0, .slice A1 a0.length c_1), (4, .bool A1.isNone)] rfl ?_
  refine J.cond rfl (fun c1 => ?_) (fun c1 => ?_)
  · have e1 := h0.nilrow (Gives.self 0 rfl) (by simpa using c1)
    replace H : (some ([] : List (List UInt8 × List UInt8))) = some r := by rw [e1] at H; simpa using H
    refine J.seq ?_
    refine J.region ?_
    refine RJ.run ttok 1 rfl ?_
    refine RJ.fin [(2, .slice none ([] : List (List UInt8 × List UInt8)).length 0)] rfl ?_
    refine J.ret ?_
    have h1 := h0.addNil 50 (.pair .str .str)
    obtain rfl := Option.some.inj H
    exact ⟨_, _, _, (results_slots rfl), ⟨_, _, rfl, rfl⟩, h1.only [0] rfl⟩
  · refine J.skip ?_
    refine J.seq ?_
    refine J.region ?_
    refine RJ.op rfl rfl (op_lit ttok (.pair .str .str) rfl ([] : List (List UInt8 × List UInt8)) rfl h0 rfl rfl (by decide) rfl rfl rfl rfl rfl rfl rfl) ?_
    rintro _ w1 ⟨b1, rfl, h2⟩
    refine RJ.run ttok 1 rfl ?_
    obtain ⟨p1, H⟩ := guard_t H
    refine RJ.op rfl rfl (op_append ttok rfl 0 rfl h2 rfl (Gives.self 0 rfl) rfl rfl rfl rfl rfl rfl (by decide) (by decide) p1) ?_
    rintro _ w2 ⟨A2, c_2, rfl, h3⟩
    refine RJ.run ttok 1 rfl ?_
    refine RJ.fin [(2, .slice A2 (([] : List (List UInt8 × List UInt8)) ++ a0).length c_2)] rfl ?_
    refine J.ret ?_
    obtain rfl := Option.some.inj H
    exact ⟨_, _, _, (results_slots rfl), ⟨_, _, rfl, rfl⟩, h3.only [0] rfl⟩

/-! internal/bytealg.CompareString -/
def bytealg_CompareString.f (a0 : List UInt8) (a1 : List UInt8) : Option (Int) := some (scmp a0 a1)
set_option maxRecDepth 20000 in
set_option maxHeartbeats 4000000 in
theorem bytealg_CompareString.spec {a0 : List UInt8} {a1 : List UInt8}  {r : Int} (H : bytealg_CompareString.f a0 a1 = some r) :
    Spec Try.prog 116 [.string ⟨⟨a0⟩⟩, .string ⟨⟨a1⟩⟩] [] [] (fun v l => v = .int .i64 r ∧ l = []) := by
  refine Spec.enter Try.func116 rfl (by kernel_rfl) (by kernel_rfl) fun w0 F0 h0 => ?_
  unfold bytealg_CompareString.f at H
  refine J.seq ?_
  refine J.region ?_
  refine RJ.run ttok 1 rfl ?_
  refine RJ.fin [(0, .string ⟨⟨a0⟩⟩), (1, .string ⟨⟨a1⟩⟩)] rfl ?_
  refine J.seq ?_
  refine J.region ?_
  refine RJ.run ttok 2 rfl ?_
  refine RJ.q rfl rfl (q_cmpstr cmpstr rfl rfl rfl) ?_
  refine RJ.run ttok 1 rfl ?_
  refine RJ.fin [(4, .int .i64 (scmp a0 a1))] rfl ?_
  refine J.ret ?_
  obtain rfl := Option.some.inj H
  exact ⟨_, _, _, (results_slots rfl), ⟨rfl, rfl⟩, h0.only [] rfl⟩

/-! strings.Compare -/
def strings_Compare.f (a0 : List UInt8) (a1 : List UInt8) : Option (Int) := (bytealg_CompareString.f a0 a1).bind fun r1 => (some r1)
set_option maxRecDepth 20000 in
set_option maxHeartbeats 4000000 in
theorem strings_Compare.spec {a0 : List UInt8} {a1 : List UInt8}  {r : Int} (H : strings_Compare.f a0 a1 = some r) :
    Spec Try.prog 104 [.string ⟨⟨a0⟩⟩, .string ⟨⟨a1⟩⟩] [] [] (fun v l => v = .int .i64 r ∧ l = []) := by
  refine Spec.enter Try.func104 rfl (by kernel_rfl) (by kernel_rfl) fun w0 F0 h0 => ?_
  unfold strings_Compare.f at H
  refine J.seq ?_
  refine J.region ?_
  refine RJ.run ttok 1 rfl ?_
  refine RJ.fin [(0, .string ⟨⟨a0⟩⟩), (1, .string ⟨⟨a1⟩⟩)] rfl ?_
  refine J.seq ?_
  refine J.region ?_
  refine RJ.run ttok 2 rfl ?_
  obtain ⟨r1, q1, H⟩ := bind_t H
  refine RJ.op rfl rfl (op_call [] (bytealg_CompareString.spec q1) rfl rfl rfl h0 rfl gnil) ?_
  rintro _ w1 ⟨_, ⟨rfl, rfl⟩, h1⟩
  refine RJ.run ttok 1 rfl ?_
  refine RJ.fin [(4, .int .i64 r1)] rfl ?_
  refine J.ret ?_
  obtain rfl := Option.some.inj H
  exact ⟨_, _, _, (results_slots rfl), ⟨rfl, rfl⟩, h1.only [] rfl⟩

/-! sluicegate/lex.Compare -/
def lex_Compare.f (a0 : List UInt8) (a1 : List UInt8) : Option (Int) := (strings_Compare.f a0 a1).bind fun r1 => (some r1)
set_option maxRecDepth 20000 in
set_option maxHeartbeats 4000000 in
theorem lex_Compare.spec {a0 : List UInt8} {a1 : List UInt8}  {r : Int} (H : lex_Compare.f a0 a1 = some r) :
    Spec Try.prog 86 [.string ⟨⟨a0⟩⟩, .string ⟨⟨a1⟩⟩] [] [] (fun v l => v = .int .i64 r ∧ l = []) := by
  refine Spec.enter Try.func86 rfl (by kernel_rfl) (by kernel_rfl) fun w0 F0 h0 => ?_
  unfold lex_Compare.f at H
  refine J.seq ?_
  refine J.region ?_
  refine RJ.run ttok 1 rfl ?_
  refine RJ.fin [(0, .string ⟨⟨a0⟩⟩), (1, .string ⟨⟨a1⟩⟩)] rfl ?_
  refine J.seq ?_
  refine J.region ?_
  refine RJ.run ttok 2 rfl ?_
  obtain ⟨r1, q1, H⟩ := bind_t H
  refine RJ.op rfl rfl (op_call [] (strings_Compare.spec q1) rfl rfl rfl h0 rfl gnil) ?_
  rintro _ w1 ⟨_, ⟨rfl, rfl⟩, h1⟩
  refine RJ.run ttok 1 rfl ?_
  refine RJ.fin [(4, .int .i64 r1)] rfl ?_
  refine J.ret ?_
  obtain rfl := Option.some.inj H
  exact ⟨_, _, _, (results_slots rfl), ⟨rfl, rfl⟩, h1.only [] rfl⟩

/-! sluicegate/leaf.compare -/
def leaf_compare.f (a0 : List UInt8 × List UInt8) (a1 : List UInt8) : Option (Int) := (lex_Compare.f a0.1 a1).bind fun r1 => (some r1)
set_option maxRecDepth 20000 in
set_option maxHeartbeats 4000000 in
theorem leaf_compare.spec {a0 : List UInt8 × List UInt8} {a1 : List UInt8}  {r : Int} (H : leaf_compare.f a0 a1 = some r) :
    Spec Try.prog 79 [.agg #[.string ⟨⟨a0.1⟩⟩, .string ⟨⟨a0.2⟩⟩], .string ⟨⟨a1⟩⟩] [] [] (fun v l => v = .int .i64 r ∧ l = []) := by
  refine Spec.enter Try.func79 rfl (by kernel_rfl) (by kernel_rfl) fun w0 F0 h0 => ?_
  unfold leaf_compare.f at H
  refine J.seq ?_
  refine J.region ?_
  refine RJ.op rfl rfl (op_box rfl rfl h0) ?_
  rintro _ w1 ⟨b1, rfl, h1⟩
  refine RJ.run ttok 1 rfl ?_
  refine RJ.fin [(1, .string ⟨⟨a1⟩⟩), (2, .pointer (some ⟨b1, 0, none⟩))] rfl ?_
  refine J.seq ?_
  refine J.region ?_
  refine RJ.run ttok 1 rfl ?_
  refine RJ.q rfl rfl (q_load_box ttok 0 (fun w e => e ▸ h1.wh) rfl rfl rfl rfl rfl) ?_
  refine RJ.run ttok 1 rfl ?_
  obtain ⟨r1, q1, H⟩ := bind_t H
  refine RJ.op rfl rfl (op_call [] (lex_Compare.spec q1) rfl rfl rfl h1 rfl gnil) ?_
  rintro _ w2 ⟨_, ⟨rfl, rfl⟩, h2⟩
  refine RJ.run ttok 1 rfl ?_
  refine RJ.fin [(4, .int .i64 r1)] rfl ?_
  refine J.ret ?_
  obtain rfl := Option.some.inj H
  exact ⟨_, _, _, (results_slots rfl), ⟨rfl, rfl⟩, h2.only [] rfl⟩

/-! slices.BinarySearchFunc[[]sluicegate/api.Pair,sluicegate/api.Pair,string] -/
def slices_BinarySearchFunc_api_Pair_api_Pair_string_leaf_compare.l0 : Nat → (List (List UInt8 × List UInt8)) → (List UInt8) → (Int) → (Int) → Option (Int × Bool)
  | 0, _, _, _, _ => none
  | k + 1, a0, a1, x1, x2 => if (decide (x1 < x2)) = true then (if 0 ≤ (w64 ((Int.fdiv (IntKind.u64.wrap ((w64 (x1 + x2)))) (2 ^ 1)))) ∧ (w64 ((Int.fdiv (IntKind.u64.wrap ((w64 (x1 + x2)))) (2 ^ 1)))) < (a0.length : Int) then ((leaf_compare.f ((gt a0 (w64 ((Int.fdiv (IntKind.u64.wrap ((w64 (x1 + x2)))) (2 ^ 1))))).1, (gt a0 (w64 ((Int.fdiv (IntKind.u64.wrap ((w64 (x1 + x2)))) (2 ^ 1))))).2) a1).bind fun r1 => (if (decide (r1 < 0)) = true then (slices_BinarySearchFunc_api_Pair_api_Pair_string_leaf_compare.l0 k a0 a1 (w64 ((w64 ((Int.fdiv (IntKind.u64.wrap ((w64 (x1 + x2)))) (2 ^ 1)))) + 1)) x2) else (slices_BinarySearchFunc_api_Pair_api_Pair_string_leaf_compare.l0 k a0 a1 x1 (w64 ((Int.fdiv (IntKind.u64.wrap ((w64 (x1 + x2)))) (2 ^ 1))))))) else none) else (if (decide (x1 < (a0.length : Int))) = true then (if 0 ≤ x1 ∧ x1 < (a0.length : Int) then ((leaf_compare.f ((gt a0 x1).1, (gt a0 x1).2) a1).bind fun r2 => (some (x1, (decide (r2 = 0))))) else none) else (some (x1, false)))
def slices_BinarySearchFunc_api_Pair_api_Pair_string_leaf_compare.f (k : Nat) (a0 : List (List UInt8 × List UInt8)) (a1 : List UInt8) : Option (Int × Bool) := slices_BinarySearchFunc_api_Pair_api_Pair_string_leaf_compare.l0 k a0 a1 0 (a0.length : Int)
set_option maxRecDepth 20000 in
set_option maxHeartbeats 4000000 in
theorem slices_BinarySearchFunc_api_Pair_api_Pair_string_leaf_compare.spec {k : Nat} {a0 : List (List UInt8 × List UInt8)} {a1 : List UInt8} {A1 : Option Addr} {c_1 : Nat} {r : Int × Bool} (H : slices_BinarySearchFunc_api_Pair_api_Pair_string_leaf_compare.f k a0 a1 = some r) :
    Spec Try.prog 78 [.slice A1 a0.length c_1, .string ⟨⟨a1⟩⟩, .func (.func 79) #[] #[]] [] [rdC 50 (.pair .str .str) a0 (.slice A1 a0.length c_1)] (fun v l => v = .tuple #[.int .i64 r.1, .bool r.2] ∧ l = []) := by
  refine Spec.enter Try.func78 rfl (by kernel_rfl) (by kernel_rfl) fun w0 F0 h0 => ?_
  unfold slices_BinarySearchFunc_api_Pair_api_Pair_string_leaf_compare.f at H
  refine J.seq ?_
  refine J.region ?_
  refine RJ.run ttok 2 rfl ?_
  refine RJ.fin [(0, .slice A1 a0.length c_1), (1, .string ⟨⟨a1⟩⟩), (2, .func (.func 79) #[] #[])] rfl ?_
  refine J.seq ?_
  refine J.region ?_
  refine RJ.run ttok 3 rfl ?_
  refine RJ.fin [(0, .slice A1 a0.length c_1), (1, .string ⟨⟨a1⟩⟩), (2, .func (.func 79) #[] #[]), (8, .int .i64 (a0.length : Int))] rfl ?_
  refine J.seq ?_
  refine J.region ?_
  refine RJ.run ttok 3 rfl ?_
  refine RJ.fin [(0, .slice A1 a0.length c_1), (1, .string ⟨⟨a1⟩⟩), (2, .func (.func 79) #[] #[]), (8, .int .i64 (a0.length : Int)), (9, .int .i64 0), (10, .int .i64 (a0.length : Int))] rfl ?_
  refine J.seq ?_
  refine J.block ?_
  have h6 := ((h0.only [] rfl).rds [0] rfl)
  refine J.loop (fun k env w => ∃ (x1 : Int) (x2 : Int), env = [(0, .slice A1 a0.length c_1), (1, .string ⟨⟨a1⟩⟩), (2, .func (.func 79) #[] #[]), (8, .int .i64 (a0.length : Int)), (9, .int .i64 x1), (10, .int .i64 x2)] ∧ St w0 F0 [] [rdC 50 (.pair .str .str) a0 (.slice A1 a0.length c_1)] w ∧ slices_BinarySearchFunc_api_Pair_api_Pair_string_leaf_compare.l0 k a0 a1 x1 x2 = some r) (k := k) ⟨0, (a0.length : Int), rfl, h6, H⟩ ?_
  rintro k1 env w1 ⟨x1, x2, rfl, h1, H⟩
  cases k1 with
  | zero => exact nomatch (show none = some r from H)
  | succ k1 =>
    rw [slices_BinarySearchFunc_api_Pair_api_Pair_string_leaf_compare.l0] at H
    refine J.seq ?_
    refine J.seq ?_
    refine J.region ?_
    refine RJ.run ttok 3 rfl ?_
    refine RJ.fin [(0, .slice A1 a0.length c_1), (1, .string ⟨⟨a1⟩⟩), (2, .func (.func 79) #[] #[]), (8, .int .i64 (a0.length : Int)), (9, .int .i64 x1), (10, .int .i64 x2), (17, .bool (decide (x1 < x2)))] rfl ?_
    refine J.cond rfl (fun c1 => ?_) (fun c1 => ?_)
    · replace H := ite_t c1 H
      refine J.skip ?_
      refine J.block ?_
      refine J.seq ?_
      refine J.region ?_
      refine RJ.run ttok 7 rfl ?_
      refine RJ.fin [(0, .slice A1 a0.length c_1), (1, .string ⟨⟨a1⟩⟩), (2, .func (.func 79) #[] #[]), (8, .int .i64 (a0.length : Int)), (9, .int .i64 x1), (10, .int .i64 x2), (11, .int .i64 (w64 ((Int.fdiv (IntKind.u64.wrap ((w64 (x1 + x2)))) (2 ^ 1)))))] rfl ?_
      refine J.seq ?_
      refine J.region ?_
      refine RJ.run ttok 3 rfl ?_
      obtain ⟨⟨p1, p2⟩, H⟩ := guard_t H
      have e1 := elem_A h1.wh (Gives.self 0 rfl) p1 p2
      refine RJ.q rfl rfl (q_index ttok rfl rfl rfl rfl rfl e1 p1 p2) ?_
      refine RJ.q rfl rfl (q_load_elem (f := 0) ttok rfl (fun w e => e ▸ h1.wh) (Gives.self 0 rfl) p1 p2 rfl rfl rfl rfl rfl) ?_
      refine RJ.run ttok 1 rfl ?_
      obtain ⟨r1, q1, H⟩ := bind_t H
      refine RJ.op rfl rfl (op_call [] (leaf_compare.spec q1) rfl rfl rfl h1 rfl gnil) ?_
      rintro _ w2 ⟨_, ⟨rfl, rfl⟩, h2⟩
      refine RJ.run ttok 1 rfl ?_
      refine RJ.fin [(0, .slice A1 a0.length c_1), (1, .string ⟨⟨a1⟩⟩), (2, .func (.func 79) #[] #[]), (8, .int .i64 (a0.length : Int)), (9, .int .i64 x1), (10, .int .i64 x2), (11, .int .i64 (w64 ((Int.fdiv (IntKind.u64.wrap ((w64 (x1 + x2)))) (2 ^ 1))))), (31, .bool (decide (r1 < 0)))] rfl ?_
      refine J.cond rfl (fun c2 => ?_) (fun c2 => ?_)
      · replace H := ite_t c2 H
        refine J.region ?_
        refine RJ.run ttok 3 rfl ?_
        refine RJ.fin [(0, .slice A1 a0.length c_1), (1, .string ⟨⟨a1⟩⟩), (2, .func (.func 79) #[] #[]), (8, .int .i64 (a0.length : Int)), (9, .int .i64 (w64 ((w64 ((Int.fdiv (IntKind.u64.wrap ((w64 (x1 + x2)))) (2 ^ 1)))) + 1))), (10, .int .i64 x2)] rfl ?_
        have h3 := ((h2.only [] rfl).rds [0] rfl)
        exact ⟨k1, by omega, (w64 ((w64 ((Int.fdiv (IntKind.u64.wrap ((w64 (x1 + x2)))) (2 ^ 1)))) + 1)), x2, rfl, h3, H⟩
      · replace H := ite_f c2 H
        refine J.region ?_
        refine RJ.run ttok 2 rfl ?_
        refine RJ.fin [(0, .slice A1 a0.length c_1), (1, .string ⟨⟨a1⟩⟩), (2, .func (.func 79) #[] #[]), (8, .int .i64 (a0.length : Int)), (9, .int .i64 x1), (10, .int .i64 (w64 ((Int.fdiv (IntKind.u64.wrap ((w64 (x1 + x2)))) (2 ^ 1)))))] rfl ?_
        have h4 := ((h2.only [] rfl).rds [0] rfl)
        exact ⟨k1, by omega, x1, (w64 ((Int.fdiv (IntKind.u64.wrap ((w64 (x1 + x2)))) (2 ^ 1)))), rfl, h4, H⟩
    · replace H := ite_f c1 H
      refine J.exit ?_
      refine J.seq ?_
      refine J.region ?_
      refine RJ.run ttok 5 rfl ?_
      rcases Bool.eq_false_or_eq_true (decide (x1 < (a0.length : Int))) with c3 | c3
      · replace H := ite_t c3 H
        refine RJ.know (t := 39) rfl (congrArg Value.bool c3) ?_
        refine RJ.run ttok 3 rfl ?_
        obtain ⟨⟨p3, p4⟩, H⟩ := guard_t H
        have e2 := elem_A h1.wh (Gives.self 0 rfl) p3 p4
        refine RJ.q rfl rfl (q_index ttok rfl rfl rfl rfl rfl e2 p3 p4) ?_
        refine RJ.q rfl rfl (q_load_elem (f := 0) ttok rfl (fun w e => e ▸ h1.wh) (Gives.self 0 rfl) p3 p4 rfl rfl rfl rfl rfl) ?_
        refine RJ.run ttok 1 rfl ?_
        obtain ⟨r2, q2, H⟩ := bind_t H
        refine RJ.op rfl rfl (op_call [] (leaf_compare.spec q2) rfl rfl rfl h1 rfl gnil) ?_
        rintro _ w3 ⟨_, ⟨rfl, rfl⟩, h5⟩
        refine RJ.run ttok 4 rfl ?_
        refine RJ.fin [(6, .int .i64 x1), (7, .bool (decide (r2 = 0)))] rfl ?_
        refine J.ret ?_
        obtain rfl := Option.some.inj H
        exact ⟨_, _, _, (results_slots rfl), ⟨rfl, rfl⟩, h5.only [] rfl⟩
      · replace H := ite_f c3 H
        refine RJ.know (t := 39) rfl (congrArg Value.bool c3) ?_
        refine RJ.run ttok 11 rfl ?_
        refine RJ.fin [(6, .int .i64 x1), (7, .bool false)] rfl ?_
        refine J.ret ?_
        obtain rfl := Option.some.inj H
        exact ⟨_, _, _, (results_slots rfl), ⟨rfl, rfl⟩, h1.only [] rfl⟩

/-! slices.Delete[[]sluicegate/api.Pair,sluicegate/api.Pair] -/
def slices_Delete_api_Pair_api_Pair.f (a0 : List (List UInt8 × List UInt8)) (a1 : Int) (a2 : Int) : Option (List (List UInt8 × List UInt8)) :=
  if 0 ≤ a1 ∧ a1 ≤ a2 ∧ a2 ≤ (a0.length : Int) then some (a0.take a1.toNat ++ a0.drop a2.toNat) else none
set_option maxRecDepth 20000 in
set_option maxHeartbeats 4000000 in
theorem slices_Delete_api_Pair_api_Pair.spec {a0 : List (List UInt8 × List UInt8)} {a1 : Int} {a2 : Int} {A1 : Option Addr} {c_1 : Nat} {r : List (List UInt8 × List UInt8)} (H : slices_Delete_api_Pair_api_Pair.f a0 a1 a2 = some r) :
    Spec Try.prog 80 [.slice A1 a0.length c_1, .int .i64 a1, .int .i64 a2] [ownC 50 (.pair .str .str) a0 (.slice A1 a0.length c_1)] []
      (fun v l => ∃ (A_0 : Option Addr) (c_0 : Nat), v = .slice A_0 r.length c_0 ∧ l = [ownC 50 (.pair .str .str) r (.slice A_0 r.length c_0)]) := by
  refine Spec.enter Try.func80 rfl (by kernel_rfl) (by kernel_rfl) fun w0 F0 h0 => ?_
  unfold slices_Delete_api_Pair_api_Pair.f at H
  obtain ⟨⟨p0, p1, p2⟩, H⟩ := guard_t H
  obtain rfl := Option.some.inj H
  clear H
  obtain ⟨i, rfl⟩ := Int.eq_ofNat_of_zero_le p0
  obtain ⟨j, rfl⟩ := Int.eq_ofNat_of_zero_le (show 0 ≤ a2 by omega)
  have hij : i ≤ j := by omega
  have hj : j ≤ a0.length := by omega
  have hc1 := h0.cap (Gives.of 0 rfl own_rd)
  simp only [Int.toNat_natCast]
  refine J.seq ?_
  refine J.region ?_
  refine RJ.run ttok 1 rfl ?_
  refine RJ.fin [(0, .slice A1 a0.length c_1), (1, .int .i64 (i : Int)), (2, .int .i64 (j : Int))] rfl ?_
  refine J.seq ?_
  refine J.region ?_
  refine RJ.run ttok 5 rfl ?_
  refine RJ.q rfl rfl (q_cut3 (l := (i : Int)) (h := (j : Int)) (m := (a0.length : Int)) ttok rfl rfl rfl rfl hc1 rfl rfl rfl p0 p1 p2 (by omega)) ?_
  refine RJ.fin [(0, .slice A1 a0.length c_1), (1, .int .i64 (i : Int)), (2, .int .i64 (j : Int))] rfl ?_
  refine J.seq ?_
  refine J.seq ?_
  refine J.region ?_
  refine RJ.run ttok 3 rfl ?_
  refine RJ.fin [(0, .slice A1 a0.length c_1), (1, .int .i64 (i : Int)), (2, .int .i64 (j : Int)), (16, .bool (decide ((i : Int) = (j : Int))))] rfl ?_
  refine J.cond rfl (fun c => ?_) (fun c => ?_)
  · have e : i = j := by have := of_decide_eq_true c; omega
    refine J.seq ?_
    refine J.region ?_
    refine RJ.run ttok 2 rfl ?_
    refine RJ.fin [(6, .slice A1 a0.length c_1)] rfl ?_
    refine J.ret ?_
    have e : a0.take i ++ a0.drop j = a0 := by rw [e, List.take_append_drop]
    rw [e]
    exact ⟨_, _, _, (results_slots rfl), ⟨_, _, rfl, rfl⟩, h0.only [0] rfl⟩
  · refine J.skip ?_
    have hlt : i < j := by have := of_decide_eq_false c; omega
    rcases h0.openRow (ty := (.pair .str .str)) rfl 0 rfl with ⟨_, e, _⟩ | ⟨b, sp, rfl, hc, hcm, hsp, h1⟩
    · rw [e] at hj; simp at hj; omega
    have hX := flat_len (ty := (.pair .str .str)) rfl a0
    have nn : Ty.n (.pair .str .str) = 2 := rfl
    have oX := scal_one (ty := (.pair .str .str)) rfl a0
    have eT : (a0.flatMap (Ty.enc (.pair .str .str))).take (i * 2) = (a0.take i).flatMap (Ty.enc (.pair .str .str)) := flat_take (ty := (.pair .str .str)) rfl a0 i
    have eD : (a0.flatMap (Ty.enc (.pair .str .str))).drop (j * 2) = (a0.drop j).flatMap (Ty.enc (.pair .str .str)) := flat_drop (ty := (.pair .str .str)) rfl a0 j
    have eR : (a0.take i ++ a0.drop j).flatMap (Ty.enc (.pair .str .str)) = (a0.flatMap (Ty.enc (.pair .str .str))).take (i * 2) ++ (a0.flatMap (Ty.enc (.pair .str .str))).drop (j * 2) := by rw [eT, eD, List.flatMap_append]
    have lR : (a0.take i ++ a0.drop j).length = i + (a0.length - j) := by simp only [List.length_append, List.length_take, List.length_drop]; omega
    rw [nn] at hX hsp
    obtain ⟨X, hXe⟩ : ∃ X, X = a0.flatMap (Ty.enc (.pair .str .str)) := ⟨_, rfl⟩
    rw [← hXe] at hX eR h1 oX
    refine J.seq ?_
    refine J.region ?_
    refine RJ.run ttok 3 rfl ?_
    refine RJ.fin [(0, .slice (some ⟨b, 0, none⟩) a0.length c_1), (1, .int .i64 (i : Int)), (2, .int .i64 (j : Int)), (7, .int .i64 (a0.length : Int))] rfl ?_
    obtain ⟨G, ⟨hG, hh⟩, _⟩ := h1.own (k := 0) (c := boxC b 50 (X ++ sp)) rfl
    have lXs : (X ++ sp).length = c_1 * 2 := by rw [List.length_append]; omega
    have lS : ∀ w', w'.heap[b]? = some (.cells (X ++ sp).toArray 50 (0, 0)) → Lies w' (cutA (some ⟨b, 0, none⟩) c_1 j 2) (X.drop (j * 2)) := fun w' hw => by
      have := (lies_cutA hw lXs (l := j)).take ((a0.length - j) * 2)
      rwa [List.drop_append_of_le_length (by omega), List.take_append_of_le_length (by rw [List.length_drop]; omega), List.take_of_length_le (by rw [List.length_drop]; omega)] at this
    refine J.seq ?_
    refine J.heldSt mix (h1.only [] rfl) ?_
    have h2 := h1.drew
    refine HJ.run ttok rfl [0, 1] rfl ?_
    refine HJ.q (i := 2) rfl rfl rfl rfl rfl rfl (q_cutRaw ttok 0 (i : Int) 0 i c_1 rfl rfl rfl rfl hc rfl ⟨_, rfl⟩ (Int.le_refl _) p0 (by omega) (by omega) (by show 0 + 0 * 2 = 0; omega) (by omega) (by omega)) ?_
    refine HJ.run ttok rfl [3, 4] rfl ?_
    refine HJ.q (i := 5) rfl rfl rfl rfl rfl rfl (q_cut (l := (j : Int)) (h := (a0.length : Int)) (sub := a0.drop j) ttok rfl rfl rfl rfl hc ⟨_, rfl⟩ rfl (by omega) p2 (Int.le_refl _) (by simpa using cut_from a0 (j : Int))) ?_
    refine HJ.op (i := 6) rfl rfl rfl rfl rfl (op_appendRaw ttok (cs := X.drop (j * 2)) 0 rfl h2 rfl rfl rfl rfl rfl (by rw [List.length_drop]; omega) (by show (X.drop (j * 2)).length = (a0.drop j).length * 2; rw [List.length_drop, List.length_drop]; omega) (by show i * 2 + _ ≤ _; rw [List.length_append, List.length_drop]; omega) (lS w0.drew hh) (fun u hu => oX u (List.mem_of_mem_drop hu))) ?_
    rintro _ w3 ⟨rfl, h3⟩
    refine ⟨⟨[_], h3⟩, ?_⟩
    replace h3 : St w0 F0 (boxC b 50 (layAt (i * 2) (X.drop (j * 2)) (X ++ sp)) :: []) [] w3 := h3
    refine HJ.know (t := 26) (v := .slice (some ⟨b, 0, none⟩) (i + (a0.length - j)) c_1) rfl (by rw [List.length_drop]) ?_
    refine HJ.run ttok rfl [7] rfl ?_
    refine HJ.fin [(0, .slice (some ⟨b, 0, none⟩) (i + (a0.length - j)) c_1), (7, .int .i64 (a0.length : Int))] rfl rfl ?_
    refine J.seq ?_
    refine J.region ?_
    refine RJ.run ttok 4 rfl ?_
    refine RJ.q rfl rfl (q_cutRaw ttok ((i + (a0.length - j) : Nat) : Int) (a0.length : Int) ((i + (a0.length - j)) * 2) (j - i) (c_1 - (i + (a0.length - j))) rfl rfl rfl rfl (by omega) ⟨_, rfl⟩ ⟨_, rfl⟩ (by omega) (by omega) (by omega) (by omega) (by show 0 + ((i + (a0.length - j) : Nat) : Int).toNat * 2 = _; omega) (by omega) (by omega)) ?_
    refine RJ.op rfl rfl (op_clearRaw ttok (ty := (.pair .str .str)) rfl (([] : List UInt8), ([] : List UInt8)) 0 rfl h3 rfl rfl rfl rfl rfl (by omega) (by simp only [layAt, List.length_append, List.length_take, List.length_drop, nn]; omega)) ?_
    intro _ w4 h4
    refine RJ.fin [(0, .slice (some ⟨b, 0, none⟩) (i + (a0.length - j)) c_1)] rfl ?_
    refine J.seq ?_
    refine J.region ?_
    refine RJ.run ttok 2 rfl ?_
    refine RJ.fin [(6, .slice (some ⟨b, 0, none⟩) (i + (a0.length - j)) c_1)] rfl ?_
    refine J.ret ?_
    have lZ := flat_len (ty := (.pair .str .str)) rfl (List.replicate (j - i) (([] : List UInt8), ([] : List UInt8)))
    rw [List.length_replicate, nn] at lZ
    have q := del_cells (X := X) (sp := sp) (Z := (List.replicate (j - i) (([] : List UInt8), ([] : List UInt8))).flatMap (Ty.enc (.pair .str .str))) (a := i * 2) (b := j * 2) (by omega) (by omega) (by omega)
    have e1 : (i + (a0.length - j)) * 2 = i * 2 + (X.length - j * 2) := by omega
    rw [e1] at h4
    have h5 := h4.closeRow (ty := (.pair .str .str)) (ys := a0.take i ++ a0.drop j) (c := c_1) rfl 0 rfl (by rw [lR]; omega) hcm (by rw [q.1, lXs, nn]) (by rw [eR, lR, nn, e1, q.2])
    exact ⟨_, _, _, (results_slots rfl), ⟨_, _, by rw [lR]; rfl, rfl⟩, h5.only [0] rfl⟩

/-! slices.Insert[[]sluicegate/api.Pair,sluicegate/api.Pair] -/
theorem slices_Insert_api_Pair_api_Pair.ov : Ov Try.prog 101 29 := Ov.of (rs := Try.f101.resultTypes) Try.func101 (by kernel_rfl) (by kernel_rfl) (by kernel_rfl) (by kernel_rfl)
def slices_Insert_api_Pair_api_Pair.f (a0 : List (List UInt8 × List UInt8)) (a1 : Int) (a2 : List (List UInt8 × List UInt8)) : Option (List (List UInt8 × List UInt8)) :=
  if 0 ≤ a1 ∧ a1 ≤ (a0.length : Int) then (if (a0.length + a2.length) * 32 ≤ 140737488355328 then some (a0.take a1.toNat ++ a2 ++ a0.drop a1.toNat) else none) else none
set_option maxRecDepth 20000 in
set_option maxHeartbeats 4000000 in
theorem slices_Insert_api_Pair_api_Pair.spec {a0 : List (List UInt8 × List UInt8)} {a1 : Int} {a2 : List (List UInt8 × List UInt8)} {A1 : Option Addr} {c_1 : Nat} {A2 : Option Addr} {c_2 : Nat} {r : List (List UInt8 × List UInt8)} (H : slices_Insert_api_Pair_api_Pair.f a0 a1 a2 = some r) :
    Spec Try.prog 81 [.slice A1 a0.length c_1, .int .i64 a1, .slice A2 a2.length c_2] [ownC 50 (.pair .str .str) a0 (.slice A1 a0.length c_1)] [rdC 50 (.pair .str .str) a2 (.slice A2 a2.length c_2)]
      (fun v l => ∃ (A_0 : Option Addr) (c_0 : Nat), v = .slice A_0 r.length c_0 ∧ l = [ownC 50 (.pair .str .str) r (.slice A_0 r.length c_0)]) := by
  refine Spec.enter Try.func81 rfl (by kernel_rfl) (by kernel_rfl) fun w0 F0 h0 => ?_
  unfold slices_Insert_api_Pair_api_Pair.f at H
  obtain ⟨⟨p0, p1⟩, H⟩ := guard_t H
  obtain ⟨p2, H⟩ := guard_t H
  obtain rfl := Option.some.inj H
  clear H
  obtain ⟨i, rfl⟩ := Int.eq_ofNat_of_zero_le p0
  have hi : i ≤ a0.length := by omega
  have hc1 := h0.cap (Gives.of 0 rfl own_rd)
  simp only [Int.toNat_natCast]
  refine J.seq ?_
  refine J.region ?_
  refine RJ.run ttok 1 rfl ?_
  refine RJ.fin [(0, .slice A1 a0.length c_1), (1, .int .i64 (i : Int)), (2, .slice A2 a2.length c_2)] rfl ?_
  refine J.seq ?_
  refine J.region ?_
  refine RJ.run ttok 2 rfl ?_
  refine RJ.q rfl rfl (q_cut (l := (i : Int)) (h := (a0.length : Int)) (sub := a0.drop i) ttok rfl rfl rfl rfl hc1 ⟨_, rfl⟩ rfl p0 p1 (Int.le_refl _) (by simpa using cut_from a0 (i : Int))) ?_
  refine RJ.fin [(0, .slice A1 a0.length c_1), (1, .int .i64 (i : Int)), (2, .slice A2 a2.length c_2)] rfl ?_
  refine J.seq ?_
  refine J.region ?_
  refine RJ.run ttok 3 rfl ?_
  refine RJ.fin [(0, .slice A1 a0.length c_1), (1, .int .i64 (i : Int)), (2, .slice A2 a2.length c_2), (7, .int .i64 (a2.length : Int))] rfl ?_
  refine J.seq ?_
  refine J.seq ?_
  refine J.region ?_
  refine RJ.run ttok 2 rfl ?_
  refine RJ.fin [(0, .slice A1 a0.length c_1), (1, .int .i64 (i : Int)), (2, .slice A2 a2.length c_2), (7, .int .i64 (a2.length : Int)), (16, .bool (decide ((a2.length : Int) = 0)))] rfl ?_
  refine J.cond rfl (fun c => ?_) (fun c => ?_)
  · have hz : a2 = [] := List.eq_nil_of_length_eq_zero (by have := of_decide_eq_true c; omega)
    subst hz
    refine J.seq ?_
    refine J.region ?_
    refine RJ.run ttok 2 rfl ?_
    refine RJ.fin [(6, .slice A1 a0.length c_1)] rfl ?_
    refine J.ret ?_
    have e : a0.take i ++ [] ++ a0.drop i = a0 := by simp
    rw [e]
    exact ⟨_, _, _, (results_slots rfl), ⟨_, _, rfl, rfl⟩, h0.only [0] rfl⟩
  · refine J.skip ?_
    have hm : a2.length ≠ 0 := by have := of_decide_eq_false c; omega
    refine J.seq ?_
    refine J.region ?_
    refine RJ.run ttok 3 rfl ?_
    refine RJ.fin [(0, .slice A1 a0.length c_1), (1, .int .i64 (i : Int)), (2, .slice A2 a2.length c_2), (7, .int .i64 (a2.length : Int)), (8, .int .i64 (a0.length : Int))] rfl ?_
    refine J.seq ?_
    refine J.seq ?_
    refine J.region ?_
    refine RJ.run ttok 3 rfl ?_
    refine RJ.fin [(0, .slice A1 a0.length c_1), (1, .int .i64 (i : Int)), (2, .slice A2 a2.length c_2), (7, .int .i64 (a2.length : Int)), (8, .int .i64 (a0.length : Int)), (22, .bool (decide ((i : Int) = (a0.length : Int))))] rfl ?_
    refine J.cond rfl (fun c => ?_) (fun c => ?_)
    · have hie : i = a0.length := by have := of_decide_eq_true c; omega
      refine J.seq ?_
      refine J.region ?_
      refine RJ.run ttok 2 rfl ?_
      refine RJ.op rfl rfl (op_append ttok (ty := (.pair .str .str)) rfl 0 rfl h0 rfl (Gives.self 0 rfl) rfl rfl rfl rfl rfl rfl (by decide) (by decide) p2) ?_
      rintro _ w1 ⟨A, c_3, rfl, h1⟩
      refine RJ.run ttok 1 rfl ?_
      refine RJ.fin [(6, .slice A (a0 ++ a2).length c_3)] rfl ?_
      refine J.ret ?_
      have e : a0.take i ++ a2 ++ a0.drop i = a0 ++ a2 := by rw [hie]; simp
      rw [e]
      exact ⟨_, _, _, (results_slots rfl), ⟨_, _, rfl, rfl⟩, h1.only [0] rfl⟩
    · refine J.skip ?_
      have hlt : i < a0.length := by have := of_decide_eq_false c; omega
      have w1 : w64 ((a0.length : Int) + (a2.length : Int)) = ((a0.length + a2.length : Nat) : Int) := by rw [w64_id (by omega) (by omega)]; omega
      have wim : w64 ((i : Int) + (a2.length : Int)) = ((i + a2.length : Nat) : Int) := by rw [w64_id (by omega) (by omega)]; omega
      rcases h0.openRow (ty := (.pair .str .str)) rfl 0 rfl with ⟨_, e, _⟩ | ⟨b, sp, rfl, hc, hcm, hsp, h1⟩
      · rw [e] at hlt; cases hlt
      have hX := flat_len (ty := (.pair .str .str)) rfl a0
      have hY := flat_len (ty := (.pair .str .str)) rfl a2
      have nn : Ty.n (.pair .str .str) = 2 := rfl
      have oX := scal_one (ty := (.pair .str .str)) rfl a0
      have oY := scal_one (ty := (.pair .str .str)) rfl a2
      have eT : (a0.flatMap (Ty.enc (.pair .str .str))).take (i * 2) = (a0.take i).flatMap (Ty.enc (.pair .str .str)) := flat_take (ty := (.pair .str .str)) rfl a0 i
      have eD : (a0.flatMap (Ty.enc (.pair .str .str))).drop (i * 2) = (a0.drop i).flatMap (Ty.enc (.pair .str .str)) := flat_drop (ty := (.pair .str .str)) rfl a0 i
      have eR : (a0.take i ++ a2 ++ a0.drop i).flatMap (Ty.enc (.pair .str .str)) = (a0.flatMap (Ty.enc (.pair .str .str))).take (i * 2) ++ a2.flatMap (Ty.enc (.pair .str .str)) ++ (a0.flatMap (Ty.enc (.pair .str .str))).drop (i * 2) := by rw [eT, eD, List.flatMap_append, List.flatMap_append]
      have lR : (a0.take i ++ a2 ++ a0.drop i).length = a0.length + a2.length := by simp only [List.length_append, List.length_take, List.length_drop]; omega
      rw [nn] at hX hY hsp
      obtain ⟨X, hXe⟩ : ∃ X, X = a0.flatMap (Ty.enc (.pair .str .str)) := ⟨_, rfl⟩
      obtain ⟨Y, hYe⟩ : ∃ Y, Y = a2.flatMap (Ty.enc (.pair .str .str)) := ⟨_, rfl⟩
      rw [← hXe] at hX eR h1 oX
      rw [← hYe] at hY eR oY
      refine J.seq ?_
      refine J.seq ?_
      refine J.region ?_
      refine RJ.run ttok 3 rfl ?_
      refine RJ.know (t := 28) rfl (congrArg (Value.int .i64) w1) ?_
      refine RJ.run ttok 3 rfl ?_
      refine RJ.fin [(0, .slice (some ⟨b, 0, none⟩) a0.length c_1), (1, .int .i64 (i : Int)), (2, .slice A2 a2.length c_2), (7, .int .i64 (a2.length : Int)), (8, .int .i64 (a0.length : Int)), (31, .bool (decide ((c_1 : Int) < ((a0.length + a2.length : Nat) : Int))))] rfl ?_
      refine J.cond rfl (fun c => ?_) (fun c => ?_)
      · -- a new row
        have hgr := of_decide_eq_true c
        have w2 : w64 (((a0.length + a2.length : Nat) : Int) - (i : Int)) = ((a0.length + a2.length - i : Nat) : Int) := by rw [w64_id (by omega) (by omega)]; omega
        refine J.seq ?_
        refine J.region ?_
        refine RJ.run ttok 2 rfl ?_
        refine RJ.q rfl rfl (q_cutRaw ttok 0 (i : Int) (0) (i) (c_1) rfl rfl rfl rfl hc rfl ⟨_, rfl⟩ (Int.le_refl _) p0 (by omega) (by omega) (by show 0 + 0 * 2 = 0; omega) (by omega) (by omega)) ?_
        refine RJ.run ttok 3 rfl ?_
        refine RJ.know (t := 37) rfl (congrArg (Value.int .i64) w1) ?_
        refine RJ.run ttok 2 rfl ?_
        refine RJ.know (t := 39) rfl (congrArg (Value.int .i64) w2) ?_
        refine RJ.op rfl rfl (op_growRaw ttok 0 rfl h1 rfl rfl rfl rfl rfl rfl rfl (by decide) (by decide) (by omega) (by omega) (by rw [List.length_append]; show i * 2 ≤ _; omega) (by show ((i : Int) + _) * (32 : Nat) ≤ _; omega)) ?_
        rintro _ w2' ⟨b2, cap, tail, rfl, hcap, hcap2, htail, h2⟩
        rw [Int.toNat_natCast] at hcap
        replace hcap : a0.length + a2.length ≤ cap := by omega
        replace htail : tail.length = (cap - i) * 2 := htail
        refine RJ.know (t := 40) (v := .slice (some ⟨b2, 0, none⟩) (a0.length + a2.length) cap) rfl (by rw [Int.toNat_natCast]; congr 1; omega) ?_
        have eX : (X ++ sp).take (i * 2) = X.take (i * 2) := List.take_append_of_le_length (by omega)
        have lX : (X.take (i * 2)).length = i * 2 := by rw [List.length_take]; omega
        replace h2 : St w0 F0 (boxC b2 50 (X.take (i * 2) ++ tail) :: [boxC b 50 (X ++ sp)]) [rdC 50 (.pair .str .str) a2 (.slice A2 a2.length c_2)] w2' := by rw [← eX]; exact h2
        obtain ⟨R, hR, _⟩ := h2.gives (c := rdC 50 (.pair .str .str) a2 (.slice A2 a2.length c_2)) (Gives.self 2 rfl)
        have lY := (rd_lies (ty := (.pair .str .str)) rfl hR).2.1
        rw [← hYe] at lY
        refine RJ.run ttok 1 rfl ?_
        refine RJ.fin [(0, .slice (some ⟨b, 0, none⟩) a0.length c_1), (1, .int .i64 (i : Int)), (2, .slice A2 a2.length c_2), (7, .int .i64 (a2.length : Int)), (9, .slice (some ⟨b2, 0, none⟩) (a0.length + a2.length) cap)] rfl ?_
        refine J.seq ?_
        refine J.region ?_
        refine RJ.run ttok 2 rfl ?_
        refine RJ.q rfl rfl (q_cutRaw ttok (i : Int) ((a0.length + a2.length : Nat) : Int) (i * 2) (a0.length + a2.length - i) (cap - i) rfl rfl rfl rfl hcap ⟨_, rfl⟩ rfl p0 (by omega) (by omega) (by omega) (by show 0 + (i : Int).toNat * 2 = i * 2; omega) (by omega) (by omega)) ?_
        refine RJ.run ttok 1 rfl ?_
        refine RJ.op rfl rfl (op_copyRaw ttok (cs := Y) 0 rfl h2 rfl rfl rfl rfl rfl (by show Y.length = min a2.length (a0.length + a2.length - i) * 2; rw [Nat.min_eq_left (by omega)]; exact hY) (by rw [List.length_append]; omega) lY oY) ?_
        intro _ w3 h3
        refine RJ.fin [(0, .slice (some ⟨b, 0, none⟩) a0.length c_1), (1, .int .i64 (i : Int)), (7, .int .i64 (a2.length : Int)), (9, .slice (some ⟨b2, 0, none⟩) (a0.length + a2.length) cap)] rfl ?_
        obtain ⟨G, ⟨hG, hh⟩, _⟩ := h3.own (k := 1) (c := boxC b 50 (X ++ sp)) rfl
        have l3 : (layAt (i * 2) Y (X.take (i * 2) ++ tail)).length = cap * 2 := by simp only [layAt, List.length_append, List.length_take, List.length_drop]; omega
        refine J.seq ?_
        refine J.heldSt mix (h3.only [] rfl) ?_
        have h3 := h3.drew
        have lS : ∀ w', w'.heap[b]? = some (.cells (X ++ sp).toArray 50 (0, 0)) → Lies w' (some ⟨b, i * 2, none⟩) (X.drop (i * 2)) := fun w' hw => by
          have := (box_lies hw (i * 2)).take ((a0.length - i) * 2)
          rwa [List.drop_append_of_le_length (by omega), List.take_append_of_le_length (by rw [List.length_drop]; omega), List.take_of_length_le (by rw [List.length_drop]; omega)] at this
        refine HJ.run ttok rfl [0, 1, 2, 3] rfl ?_
        refine HJ.know (t := 49) rfl (congrArg (Value.int .i64) wim) ?_
        refine HJ.q (i := 4) rfl rfl rfl rfl rfl rfl (q_cutRaw ttok ((i + a2.length : Nat) : Int) ((a0.length + a2.length : Nat) : Int) ((i + a2.length) * 2) (a0.length - i) (cap - (i + a2.length)) rfl rfl rfl rfl hcap ⟨_, rfl⟩ rfl (by omega) (by omega) (by omega) (by omega) (by show 0 + ((i + a2.length : Nat) : Int).toNat * 2 = (i + a2.length) * 2; omega) (by omega) (by omega)) ?_
        refine HJ.run ttok rfl [5, 6] rfl ?_
        refine HJ.q (i := 7) rfl rfl rfl rfl rfl rfl (q_cutRaw ttok (i : Int) (a0.length : Int) (i * 2) (a0.length - i) (c_1 - i) rfl rfl rfl rfl hc ⟨_, rfl⟩ rfl p0 p1 (by omega) (by omega) (by show 0 + (i : Int).toNat * 2 = i * 2; omega) (by omega) (by omega)) ?_
        refine HJ.op (i := 8) rfl rfl rfl rfl rfl (op_copyRaw ttok (cs := X.drop (i * 2)) 0 rfl h3 rfl rfl rfl rfl rfl (by show (X.drop (i * 2)).length = min (a0.length - i) (a0.length - i) * 2; rw [List.length_drop, Nat.min_self]; omega) (by rw [l3, List.length_drop]; omega) (lS _ hh) (fun u hu => oX u (List.mem_of_mem_drop hu))) ?_
        intro _ w4 h4
        refine ⟨⟨[_, _], h4⟩, ?_⟩
        refine HJ.fin [(9, .slice (some ⟨b2, 0, none⟩) (a0.length + a2.length) cap)] rfl rfl ?_
        refine J.seq ?_
        refine J.region ?_
        refine RJ.run ttok 2 rfl ?_
        refine RJ.fin [(6, .slice (some ⟨b2, 0, none⟩) (a0.length + a2.length) cap)] rfl ?_
        refine J.ret ?_
        have q := ins_grow (X := X) (Y := Y) (tail := tail) (a := i * 2) (by omega) (by omega)
        have e1 : (i + a2.length) * 2 = i * 2 + Y.length := by omega
        rw [e1] at h4
        have h5 := h4.closeRow (ty := (.pair .str .str)) (ys := a0.take i ++ a2 ++ a0.drop i) (c := cap) rfl 0 rfl (by rw [lR]; exact hcap) hcap2 (by rw [q.1, List.length_append, lX, nn]; omega) (by rw [eR, lR, nn, ← q.2]; congr 1; omega)
        exact ⟨_, _, _, (results_slots rfl), ⟨_, _, by rw [lR]; rfl, rfl⟩, h5.only [0] rfl⟩
      · -- in place
        have hroom : a0.length + a2.length ≤ c_1 := by have := of_decide_eq_false c; omega
        refine J.skip ?_
        refine J.seq ?_
        refine J.region ?_
        refine RJ.run ttok 4 rfl ?_
        refine RJ.know (t := 59) rfl (congrArg (Value.int .i64) w1) ?_
        refine RJ.q rfl rfl (q_cutRaw ttok 0 ((a0.length + a2.length : Nat) : Int) (0) (a0.length + a2.length) (c_1) rfl rfl rfl rfl hc rfl ⟨_, rfl⟩ (Int.le_refl _) (by omega) (by omega) (by omega) (by show 0 + 0 * 2 = 0; omega) (by omega) (by omega)) ?_
        refine RJ.run ttok 1 rfl ?_
        refine RJ.fin [(0, .slice (some ⟨b, 0, none⟩) (a0.length + a2.length) c_1), (1, .int .i64 (i : Int)), (2, .slice A2 a2.length c_2), (7, .int .i64 (a2.length : Int)), (8, .int .i64 (a0.length : Int))] rfl ?_
        refine J.seq ?_
        refine J.seq ?_
        refine J.region ?_
        refine RJ.run ttok 4 rfl ?_
        refine RJ.run ttok 1 rfl ?_
        refine RJ.know (t := 65) rfl (congrArg (Value.int .i64) wim) ?_
        refine RJ.q rfl rfl (q_cutRaw ttok ((i + a2.length : Nat) : Int) ((a0.length + a2.length : Nat) : Int) ((i + a2.length) * 2) (a0.length - i) (c_1 - (i + a2.length)) rfl rfl rfl rfl hroom ⟨_, rfl⟩ rfl (by omega) (by omega) (by omega) (by omega) (by show 0 + ((i + a2.length : Nat) : Int).toNat * 2 = (i + a2.length) * 2; omega) (by omega) (by omega)) ?_
        refine RJ.q rfl rfl (q_overlaps ttok (ty := (.pair .str .str)) (ys := a2) rfl 0 slices_Insert_api_Pair_api_Pair.ov rfl rfl rfl h1 rfl (Gives.self 0 rfl) rfl rfl (by decide)) ?_
        refine RJ.run ttok 1 rfl ?_
        refine RJ.fin [(0, .slice (some ⟨b, 0, none⟩) (a0.length + a2.length) c_1), (1, .int .i64 (i : Int)), (2, .slice A2 a2.length c_2), (7, .int .i64 (a2.length : Int)), (8, .int .i64 (a0.length : Int)), (68, .bool true)] rfl ?_
        refine J.condT rfl ?_
        obtain ⟨G, ⟨hG, hh⟩, _⟩ := h1.own (k := 0) (c := boxC b 50 (X ++ sp)) rfl
        have lS : ∀ w', w'.heap[b]? = some (.cells (X ++ sp).toArray 50 (0, 0)) → Lies w' (some ⟨b, i * 2, none⟩) (X.drop (i * 2)) := fun w' hw => by
          have := (box_lies hw (i * 2)).take ((a0.length - i) * 2)
          rwa [List.drop_append_of_le_length (by omega), List.take_append_of_le_length (by rw [List.length_drop]; omega), List.take_of_length_le (by rw [List.length_drop]; omega)] at this
        refine J.seq ?_
        refine J.heldSt mix (h1.only [] rfl) ?_
        have h2 := h1.drew
        refine HJ.run ttok rfl [0, 1, 2, 3] rfl ?_
        refine HJ.know (t := 72) rfl (congrArg (Value.int .i64) wim) ?_
        refine HJ.q (i := 4) rfl rfl rfl rfl rfl rfl (q_cutRaw ttok ((i + a2.length : Nat) : Int) ((a0.length + a2.length : Nat) : Int) ((i + a2.length) * 2) (a0.length - i) (c_1 - (i + a2.length)) rfl rfl rfl rfl hroom ⟨_, rfl⟩ rfl (by omega) (by omega) (by omega) (by omega) (by show 0 + ((i + a2.length : Nat) : Int).toNat * 2 = (i + a2.length) * 2; omega) (by omega) (by omega)) ?_
        refine HJ.run ttok rfl [5, 6] rfl ?_
        refine HJ.q (i := 7) rfl rfl rfl rfl rfl rfl (q_cutRaw ttok (i : Int) ((a0.length + a2.length : Nat) : Int) (i * 2) (a0.length + a2.length - i) (c_1 - i) rfl rfl rfl rfl hroom ⟨_, rfl⟩ rfl p0 (by omega) (by omega) (by omega) (by show 0 + (i : Int).toNat * 2 = i * 2; omega) (by omega) (by omega)) ?_
        refine HJ.op (i := 8) rfl rfl rfl rfl rfl (op_copyRaw ttok (cs := X.drop (i * 2)) 0 rfl h2 rfl rfl rfl rfl rfl (by show (X.drop (i * 2)).length = min (a0.length + a2.length - i) (a0.length - i) * 2; rw [List.length_drop, Nat.min_eq_right (by omega)]; omega) (by rw [List.length_append, List.length_drop]; omega) (lS _ hh) (fun u hu => oX u (List.mem_of_mem_drop hu))) ?_
        intro _ w3 h3
        refine ⟨⟨[_], h3⟩, ?_⟩
        refine HJ.fin [(0, .slice (some ⟨b, 0, none⟩) (a0.length + a2.length) c_1), (1, .int .i64 (i : Int)), (2, .slice A2 a2.length c_2)] rfl rfl ?_
        obtain ⟨R, hR, _⟩ := h3.gives (c := rdC 50 (.pair .str .str) a2 (.slice A2 a2.length c_2)) (Gives.self 1 rfl)
        have lY := (rd_lies (ty := (.pair .str .str)) rfl hR).2.1
        rw [← hYe] at lY
        have q := ins_room (X := X) (Y := Y) (sp := sp) (a := i * 2) (by omega) (by omega)
        have e1 : (i + a2.length) * 2 = i * 2 + Y.length := by omega
        rw [e1] at h3
        refine J.seq ?_
        refine J.region ?_
        refine RJ.run ttok 2 rfl ?_
        refine RJ.q rfl rfl (q_cutRaw ttok (i : Int) ((a0.length + a2.length : Nat) : Int) (i * 2) (a0.length + a2.length - i) (c_1 - i) rfl rfl rfl rfl hroom ⟨_, rfl⟩ rfl p0 (by omega) (by omega) (by omega) (by show 0 + (i : Int).toNat * 2 = i * 2; omega) (by omega) (by omega)) ?_
        refine RJ.run ttok 1 rfl ?_
        refine RJ.op rfl rfl (op_copyRaw ttok (cs := Y) 0 rfl h3 rfl rfl rfl rfl rfl (by show Y.length = min a2.length (a0.length + a2.length - i) * 2; rw [Nat.min_eq_left (by omega)]; exact hY) (by simp only [layAt, List.length_append, List.length_take, List.length_drop]; omega) lY oY) ?_
        intro _ w4 h4
        refine RJ.fin [(0, .slice (some ⟨b, 0, none⟩) (a0.length + a2.length) c_1)] rfl ?_
        refine J.seq ?_
        refine J.region ?_
        refine RJ.run ttok 2 rfl ?_
        refine RJ.fin [(6, .slice (some ⟨b, 0, none⟩) (a0.length + a2.length) c_1)] rfl ?_
        refine J.ret ?_
        have h5 := h4.closeRow (ty := (.pair .str .str)) (ys := a0.take i ++ a2 ++ a0.drop i) (c := c_1) rfl 0 rfl (by rw [lR]; exact hroom) hcm (by rw [q.1, List.length_append, nn]; omega) (by rw [eR, lR, nn, ← q.2]; congr 1; omega)
        exact ⟨_, _, _, (results_slots rfl), ⟨_, _, by rw [lR]; rfl, rfl⟩, h5.only [0] rfl⟩

/-! sluicegate/leaf.Apply -/
def leaf_Apply.l0 : Nat → (List (List UInt8 × Bool × List UInt8)) → (List (List UInt8 × List UInt8)) → (Int) → Option ((List (List UInt8 × List UInt8)))
  | 0, _, _, _ => none
  | k + 1, a1, x1, x2 => if (decide (x2 < (a1.length : Int))) = true then (if 0 ≤ x2 ∧ x2 < (a1.length : Int) then ((slices_BinarySearchFunc_api_Pair_api_Pair_string_leaf_compare.f k x1 ((gt a1 x2).1)).bind fun r2 => (if r2.2 = true then (if (gt a1 x2).2.1 = true then ((slices_Delete_api_Pair_api_Pair.f x1 r2.1 (w64 (r2.1 + 1))).bind fun r3 => (leaf_Apply.l0 k a1 r3 (w64 (x2 + 1)))) else (if 0 ≤ r2.1 ∧ r2.1 < (x1.length : Int) then (leaf_Apply.l0 k a1 (x1.set r2.1.toNat ((gt x1 r2.1).1, (gt a1 x2).2.2)) (w64 (x2 + 1))) else none)) else (if (!((gt a1 x2).2.1)) = true then ((slices_Insert_api_Pair_api_Pair.f x1 r2.1 ([((gt a1 x2).1, (gt a1 x2).2.2)] : List (List UInt8 × List UInt8))).bind fun r4 => (leaf_Apply.l0 k a1 r4 (w64 (x2 + 1)))) else (leaf_Apply.l0 k a1 x1 (w64 (x2 + 1)))))) else none) else (some x1)
def leaf_Apply.f (k : Nat) (a0 : List (List UInt8 × List UInt8)) (a1 : List (List UInt8 × Bool × List UInt8)) : Option ((List (List UInt8 × List UInt8))) := (slices_Clone_api_Pair_api_Pair.f a0).bind fun r1 => (leaf_Apply.l0 k a1 r1 0)
set_option maxRecDepth 20000 in
set_option maxHeartbeats 4000000 in
theorem leaf_Apply.spec {k : Nat} {a0 : List (List UInt8 × List UInt8)} {a1 : List (List UInt8 × Bool × List UInt8)} {A1 : Option Addr} {c_1 : Nat} {A2 : Option Addr} {c_2 : Nat} {r : (List (List UInt8 × List UInt8))} (H : leaf_Apply.f k a0 a1 = some r) :
    Spec Try.prog 43 [.slice A1 a0.length c_1, .slice A2 a1.length c_2] [] [rdC 50 (.pair .str .str) a0 (.slice A1 a0.length c_1), rdC 48 (.pair .str (.pair .bool .str)) a1 (.slice A2 a1.length c_2)] (fun v l => ∃ (A_0 : Option Addr) (c_0 : Nat), v = .slice A_0 r.length c_0 ∧ l = [ownC 50 (.pair .str .str) r (.slice A_0 r.length c_0)]) := by
  refine Spec.enter Try.func43 rfl (by kernel_rfl) (by kernel_rfl) fun w0 F0 h0 => ?_
  unfold leaf_Apply.f at H
  refine J.seq ?_
  refine J.region ?_
  refine RJ.run ttok 1 rfl ?_
  refine RJ.fin [(0, .slice A1 a0.length c_1), (1, .slice A2 a1.length c_2)] rfl ?_
  refine J.seq ?_
  refine J.region ?_
  refine RJ.run ttok 1 rfl ?_
  obtain ⟨r1, q1, H⟩ := bind_t H
  refine RJ.op rfl rfl (op_call [] (slices_Clone_api_Pair_api_Pair.spec q1) rfl rfl rfl h0 rfl (gcons (Gives.self 0 rfl) gnil)) ?_
  rintro _ w1 ⟨_, ⟨A3, c_3, rfl, rfl⟩, h1⟩
  refine RJ.run ttok 1 rfl ?_
  refine RJ.fin [(1, .slice A2 a1.length c_2), (5, .slice A3 r1.length c_3)] rfl ?_
  refine J.seq ?_
  refine J.seq ?_
  refine J.region ?_
  refine RJ.run ttok 3 rfl ?_
  refine RJ.fin [(5, .slice A3 r1.length c_3), (12, .slice A2 a1.length c_2), (13, .int .i64 (a1.length : Int)), (14, .int .i64 0)] rfl ?_
  refine J.block ?_
  have h14 := ((h1.only [0] rfl).rds [1] rfl)
  refine J.loop (fun k env w => ∃ (x1 : List (List UInt8 × List UInt8)) (A4 : Option Addr) (c_4 : Nat) (x2 : Int), env = [(5, .slice A4 x1.length c_4), (12, .slice A2 a1.length c_2), (13, .int .i64 (a1.length : Int)), (14, .int .i64 x2)] ∧ St w0 F0 [ownC 50 (.pair .str .str) x1 (.slice A4 x1.length c_4)] [rdC 48 (.pair .str (.pair .bool .str)) a1 (.slice A2 a1.length c_2)] w ∧ leaf_Apply.l0 k a1 x1 x2 = some r) (k := k) ⟨r1, A3, c_3, 0, rfl, h14, H⟩ ?_
  rintro k1 env w2 ⟨x1, A4, c_4, x2, rfl, h2, H⟩
  cases k1 with
  | zero => exact nomatch (show none = some r from H)
  | succ k1 =>
    rw [leaf_Apply.l0] at H
    refine J.seq ?_
    refine J.region ?_
    refine RJ.run ttok 1 rfl ?_
    refine RJ.fin [(5, .slice A4 x1.length c_4), (12, .slice A2 a1.length c_2), (13, .int .i64 (a1.length : Int)), (14, .int .i64 x2), (15, .bool (decide (x2 < (a1.length : Int))))] rfl ?_
    refine J.seq ?_
    refine J.cond rfl (fun c1 => ?_) (fun c1 => ?_)
    · replace H := ite_t c1 H
      refine J.skip ?_
      refine J.seq ?_
      refine J.block ?_
      refine J.seq ?_
      refine J.region ?_
      obtain ⟨⟨p1, p2⟩, H⟩ := guard_t H
      have e1 := elem_A h2.wh (Gives.self 1 rfl) p1 p2
      refine RJ.q rfl rfl (q_index ttok rfl rfl rfl rfl rfl e1 p1 p2) ?_
      refine RJ.q rfl rfl (q_load_elem (f := 0) ttok rfl (fun w e => e ▸ h2.wh) (Gives.self 1 rfl) p1 p2 rfl rfl rfl rfl rfl) ?_
      refine RJ.op rfl rfl (op_alloc ttok rfl rfl h2) ?_
      rintro _ w3 ⟨b1, rfl, h3⟩
      refine RJ.op rfl rfl (op_store ttok 0 rfl h3 rfl rfl rfl rfl rfl rfl rfl) ?_
      intro _ w4 h4
      replace h4 : St w0 F0 (boxC b1 48 [.string ⟨⟨(gt a1 x2).1⟩⟩, .bool ((gt a1 x2).2.1), .string ⟨⟨(gt a1 x2).2.2⟩⟩] :: _) _ w4 := h4
      refine RJ.fin [(5, .slice A4 x1.length c_4), (7, .pointer (some ⟨b1, 0, none⟩)), (12, .slice A2 a1.length c_2), (13, .int .i64 (a1.length : Int)), (14, .int .i64 x2)] rfl ?_
      refine J.seq ?_
      refine J.region ?_
      refine RJ.run ttok 2 rfl ?_
      refine RJ.q rfl rfl (q_load_box ttok 0 (fun w e => e ▸ h4.wh) rfl rfl rfl rfl rfl) ?_
      obtain ⟨r2, q2, H⟩ := bind_t H
      refine RJ.op rfl rfl (op_call [] (slices_BinarySearchFunc_api_Pair_api_Pair_string_leaf_compare.spec q2) rfl rfl rfl h4 rfl (gcons (Gives.of 1 rfl own_rd) gnil)) ?_
      rintro _ w5 ⟨_, ⟨rfl, rfl⟩, h5⟩
      refine RJ.run ttok 5 rfl ?_
      refine RJ.fin [(5, .slice A4 x1.length c_4), (7, .pointer (some ⟨b1, 0, none⟩)), (8, .int .i64 r2.1), (9, .bool r2.2), (12, .slice A2 a1.length c_2), (13, .int .i64 (a1.length : Int)), (14, .int .i64 x2)] rfl ?_
      refine J.block ?_
      refine J.seq ?_
      refine J.region ?_
      refine RJ.run ttok 2 rfl ?_
      rcases Bool.eq_false_or_eq_true r2.2 with c2 | c2
      · replace H := ite_t c2 H
        refine RJ.know (t := 27) rfl (congrArg Value.bool c2) ?_
        refine RJ.run ttok 1 rfl ?_
        refine RJ.q rfl rfl (q_load_box ttok 0 (fun w e => e ▸ h5.wh) rfl rfl rfl rfl rfl) ?_
        refine RJ.run ttok 2 rfl ?_
        refine RJ.fin [(5, .slice A4 x1.length c_4), (7, .pointer (some ⟨b1, 0, none⟩)), (8, .int .i64 r2.1), (9, .bool r2.2), (12, .slice A2 a1.length c_2), (13, .int .i64 (a1.length : Int)), (14, .int .i64 x2), (25, .bool ((gt a1 x2).2.1))] rfl ?_
        refine J.cond rfl (fun c3 => ?_) (fun c3 => ?_)
        · replace H := ite_t c3 H
          refine J.region ?_
          refine RJ.run ttok 4 rfl ?_
          obtain ⟨r3, q3, H⟩ := bind_t H
          refine RJ.op rfl rfl (op_call [1] (slices_Delete_api_Pair_api_Pair.spec q3) rfl rfl rfl h5 rfl gnil) ?_
          rintro _ w6 ⟨_, ⟨A5, c_5, rfl, rfl⟩, h6⟩
          refine RJ.run ttok 1 rfl ?_
          refine RJ.fin [(5, .slice A5 r3.length c_5), (12, .slice A2 a1.length c_2), (13, .int .i64 (a1.length : Int)), (14, .int .i64 x2)] rfl ?_
          refine J.region ?_
          refine RJ.run ttok 2 rfl ?_
          refine RJ.fin [(5, .slice A5 r3.length c_5), (12, .slice A2 a1.length c_2), (13, .int .i64 (a1.length : Int)), (14, .int .i64 (w64 (x2 + 1)))] rfl ?_
          have h7 := ((h6.only [0] rfl).rds [0] rfl)
          exact ⟨k1, by omega, r3, A5, c_5, (w64 (x2 + 1)), rfl, h7, H⟩
        · replace H := ite_f c3 H
          refine J.seq ?_
          refine J.region ?_
          refine RJ.run ttok 2 rfl ?_
          refine RJ.fin [(5, .slice A4 x1.length c_4), (7, .pointer (some ⟨b1, 0, none⟩)), (8, .int .i64 r2.1), (12, .slice A2 a1.length c_2), (13, .int .i64 (a1.length : Int)), (14, .int .i64 x2), (36, .bool r2.2)] rfl ?_
          refine J.cond rfl (fun e => ?_) (fun e => ?_)
          · refine J.region ?_
            refine RJ.run ttok 3 rfl ?_
            refine RJ.q rfl rfl (q_load_box ttok 0 (fun w e => e ▸ h5.wh) rfl rfl rfl rfl rfl) ?_
            obtain ⟨⟨p3, p4⟩, H⟩ := guard_t H
            have e2 := elem_A h5.wh (Gives.of 1 rfl own_rd) p3 p4
            refine RJ.q rfl rfl (q_index ttok rfl rfl rfl rfl rfl e2 p3 p4) ?_
            refine RJ.run ttok 1 rfl ?_
            refine RJ.op rfl rfl (op_store_elem (f := 1) (ix := r2.1) ttok rfl ((gt x1 r2.1).1, (gt a1 x2).2.2) 1 rfl h5 rfl rfl p3 p4 rfl rfl rfl rfl rfl rfl rfl) ?_
            intro _ w7 h8
            refine RJ.fin [(5, .slice A4 x1.length c_4), (12, .slice A2 a1.length c_2), (13, .int .i64 (a1.length : Int)), (14, .int .i64 x2)] rfl ?_
            refine J.envEq (env' := [(5, .slice A4 (x1.set r2.1.toNat ((gt x1 r2.1).1, (gt a1 x2).2.2)).length c_4), (12, .slice A2 a1.length c_2), (13, .int .i64 (a1.length : Int)), (14, .int .i64 x2)]) (by simp only [List.length_set]) ?_
            refine J.region ?_
            refine RJ.run ttok 2 rfl ?_
            refine RJ.fin [(5, .slice A4 (x1.set r2.1.toNat ((gt x1 r2.1).1, (gt a1 x2).2.2)).length c_4), (12, .slice A2 a1.length c_2), (13, .int .i64 (a1.length : Int)), (14, .int .i64 (w64 (x2 + 1)))] rfl ?_
            have h9 := ((h8.only [0] rfl).rds [0] rfl)
            exact ⟨k1, by omega, (x1.set r2.1.toNat ((gt x1 r2.1).1, (gt a1 x2).2.2)), A4, c_4, (w64 (x2 + 1)), rfl, h9, H⟩
          · rw [c2] at e; cases e
      · replace H := ite_f c2 H
        refine RJ.know (t := 27) rfl (congrArg Value.bool c2) ?_
        refine RJ.run ttok 4 rfl ?_
        refine RJ.fin [(5, .slice A4 x1.length c_4), (7, .pointer (some ⟨b1, 0, none⟩)), (8, .int .i64 r2.1), (9, .bool r2.2), (12, .slice A2 a1.length c_2), (13, .int .i64 (a1.length : Int)), (14, .int .i64 x2), (25, .bool false)] rfl ?_
        refine J.condF rfl ?_
        refine J.seq ?_
        refine J.region ?_
        refine RJ.run ttok 2 rfl ?_
        refine RJ.fin [(5, .slice A4 x1.length c_4), (7, .pointer (some ⟨b1, 0, none⟩)), (8, .int .i64 r2.1), (12, .slice A2 a1.length c_2), (13, .int .i64 (a1.length : Int)), (14, .int .i64 x2), (36, .bool r2.2)] rfl ?_
        refine J.cond rfl (fun e => ?_) (fun e => ?_)
        · rw [c2] at e; cases e
        · refine J.seq ?_
          refine J.region ?_
          refine RJ.run ttok 1 rfl ?_
          refine RJ.q rfl rfl (q_load_box ttok 0 (fun w e => e ▸ h5.wh) rfl rfl rfl rfl rfl) ?_
          refine RJ.run ttok 2 rfl ?_
          refine RJ.fin [(5, .slice A4 x1.length c_4), (7, .pointer (some ⟨b1, 0, none⟩)), (8, .int .i64 r2.1), (12, .slice A2 a1.length c_2), (13, .int .i64 (a1.length : Int)), (14, .int .i64 x2), (44, .bool (!((gt a1 x2).2.1)))] rfl ?_
          refine J.cond rfl (fun c4 => ?_) (fun c4 => ?_)
          · replace H := ite_t c4 H
            refine J.region ?_
            refine RJ.run ttok 3 rfl ?_
            refine RJ.q rfl rfl (q_load_box ttok 0 (fun w e => e ▸ h5.wh) rfl rfl rfl rfl rfl) ?_
            refine RJ.run ttok 1 rfl ?_
            refine RJ.q rfl rfl (q_load_box ttok 0 (fun w e => e ▸ h5.wh) rfl rfl rfl rfl rfl) ?_
            refine RJ.run ttok 1 rfl ?_
            refine RJ.op rfl rfl (op_lit ttok (.pair .str .str) rfl ([((gt a1 x2).1, (gt a1 x2).2.2)] : List (List UInt8 × List UInt8)) rfl h5 rfl rfl (by decide) rfl rfl rfl rfl rfl rfl rfl) ?_
            rintro _ w8 ⟨b2, rfl, h10⟩
            obtain ⟨r4, q4, H⟩ := bind_t H
            refine RJ.op rfl rfl (op_call [2] (slices_Insert_api_Pair_api_Pair.spec q4) rfl rfl rfl h10 rfl (gcons (Gives.of 0 rfl own_rd) gnil)) ?_
            rintro _ w9 ⟨_, ⟨A6, c_6, rfl, rfl⟩, h11⟩
            refine RJ.run ttok 1 rfl ?_
            refine RJ.fin [(5, .slice A6 r4.length c_6), (12, .slice A2 a1.length c_2), (13, .int .i64 (a1.length : Int)), (14, .int .i64 x2)] rfl ?_
            refine J.region ?_
            refine RJ.run ttok 2 rfl ?_
            refine RJ.fin [(5, .slice A6 r4.length c_6), (12, .slice A2 a1.length c_2), (13, .int .i64 (a1.length : Int)), (14, .int .i64 (w64 (x2 + 1)))] rfl ?_
            have h12 := ((h11.only [0] rfl).rds [0] rfl)
            exact ⟨k1, by omega, r4, A6, c_6, (w64 (x2 + 1)), rfl, h12, H⟩
          · replace H := ite_f c4 H
            refine J.skip ?_
            refine J.region ?_
            refine RJ.run ttok 2 rfl ?_
            refine RJ.fin [(5, .slice A4 x1.length c_4), (12, .slice A2 a1.length c_2), (13, .int .i64 (a1.length : Int)), (14, .int .i64 (w64 (x2 + 1)))] rfl ?_
            have h13 := ((h5.only [1] rfl).rds [0] rfl)
            exact ⟨k1, by omega, x1, A4, c_4, (w64 (x2 + 1)), rfl, h13, H⟩
    · replace H := ite_f c1 H
      refine J.exit ?_
      refine J.seq ?_
      refine J.region ?_
      refine RJ.run ttok 2 rfl ?_
      refine RJ.fin [(4, .slice A4 x1.length c_4)] rfl ?_
      refine J.ret ?_
      obtain rfl := Option.some.inj H
      exact ⟨_, _, _, (results_slots rfl), ⟨_, _, rfl, rfl⟩, h2.only [0] rfl⟩

/-! sluicegate/lex.Shared -/
def lex_Shared.l0 : Nat → (List UInt8) → (List UInt8) → (Int) → Option (Int)
  | 0, _, _, _ => none
  | k + 1, a0, a1, x1 => if (decide (x1 < (if (a1.length : Int) < (a0.length : Int) then (a1.length : Int) else (a0.length : Int)))) = true then (if 0 ≤ x1 ∧ x1 < (a0.length : Int) then (if 0 ≤ x1 ∧ x1 < (a1.length : Int) then (if (!decide ((gtb a0 x1) = (gtb a1 x1))) = true then (some x1) else (lex_Shared.l0 k a0 a1 (w64 (x1 + 1)))) else none) else none) else (some (if (a1.length : Int) < (a0.length : Int) then (a1.length : Int) else (a0.length : Int)))
def lex_Shared.f (k : Nat) (a0 : List UInt8) (a1 : List UInt8) : Option (Int) := lex_Shared.l0 k a0 a1 0
set_option maxRecDepth 20000 in
set_option maxHeartbeats 4000000 in
theorem lex_Shared.spec {k : Nat} {a0 : List UInt8} {a1 : List UInt8}  {r : Int} (H : lex_Shared.f k a0 a1 = some r) :
    Spec Try.prog 103 [.string ⟨⟨a0⟩⟩, .string ⟨⟨a1⟩⟩] [] [] (fun v l => v = .int .i64 r ∧ l = []) := by
  refine Spec.enter Try.func103 rfl (by kernel_rfl) (by kernel_rfl) fun w0 F0 h0 => ?_
  unfold lex_Shared.f at H
  refine J.seq ?_
  refine J.region ?_
  refine RJ.run ttok 1 rfl ?_
  refine RJ.fin [(0, .string ⟨⟨a0⟩⟩), (1, .string ⟨⟨a1⟩⟩)] rfl ?_
  refine J.seq ?_
  refine J.region ?_
  refine RJ.run ttok 6 rfl ?_
  refine RJ.fin [(0, .string ⟨⟨a0⟩⟩), (1, .string ⟨⟨a1⟩⟩), (5, .int .i64 (if (a1.length : Int) < (a0.length : Int) then (a1.length : Int) else (a0.length : Int)))] rfl ?_
  refine J.seq ?_
  refine J.seq ?_
  refine J.region ?_
  refine RJ.run ttok 2 rfl ?_
  refine RJ.fin [(0, .string ⟨⟨a0⟩⟩), (1, .string ⟨⟨a1⟩⟩), (5, .int .i64 (if (a1.length : Int) < (a0.length : Int) then (a1.length : Int) else (a0.length : Int))), (12, .int .i64 (if (a1.length : Int) < (a0.length : Int) then (a1.length : Int) else (a0.length : Int))), (13, .int .i64 0)] rfl ?_
  refine J.block ?_
  have h4 := ((h0.only [] rfl).rds [] rfl)
  refine J.loop (fun k env w => ∃ (x1 : Int), env = [(0, .string ⟨⟨a0⟩⟩), (1, .string ⟨⟨a1⟩⟩), (5, .int .i64 (if (a1.length : Int) < (a0.length : Int) then (a1.length : Int) else (a0.length : Int))), (12, .int .i64 (if (a1.length : Int) < (a0.length : Int) then (a1.length : Int) else (a0.length : Int))), (13, .int .i64 x1)] ∧ St w0 F0 [] [] w ∧ lex_Shared.l0 k a0 a1 x1 = some r) (k := k) ⟨0, rfl, h4, H⟩ ?_
  rintro k1 env w1 ⟨x1, rfl, h1, H⟩
  cases k1 with
  | zero => exact nomatch (show none = some r from H)
  | succ k1 =>
    rw [lex_Shared.l0] at H
    refine J.seq ?_
    refine J.region ?_
    refine RJ.run ttok 1 rfl ?_
    refine RJ.fin [(0, .string ⟨⟨a0⟩⟩), (1, .string ⟨⟨a1⟩⟩), (5, .int .i64 (if (a1.length : Int) < (a0.length : Int) then (a1.length : Int) else (a0.length : Int))), (12, .int .i64 (if (a1.length : Int) < (a0.length : Int) then (a1.length : Int) else (a0.length : Int))), (13, .int .i64 x1), (14, .bool (decide (x1 < (if (a1.length : Int) < (a0.length : Int) then (a1.length : Int) else (a0.length : Int)))))] rfl ?_
    refine J.seq ?_
    refine J.cond rfl (fun c1 => ?_) (fun c1 => ?_)
    · replace H := ite_t c1 H
      refine J.skip ?_
      refine J.seq ?_
      refine J.block ?_
      refine J.seq ?_
      refine J.region ?_
      refine RJ.run ttok 2 rfl ?_
      refine RJ.fin [(0, .string ⟨⟨a0⟩⟩), (1, .string ⟨⟨a1⟩⟩), (5, .int .i64 (if (a1.length : Int) < (a0.length : Int) then (a1.length : Int) else (a0.length : Int))), (6, .int .i64 x1), (12, .int .i64 (if (a1.length : Int) < (a0.length : Int) then (a1.length : Int) else (a0.length : Int))), (13, .int .i64 x1)] rfl ?_
      refine J.seq ?_
      refine J.heldSt mix h1 ?_
      have h2 := h1.drew
      refine HJ.run ttok rfl [0, 1, 3, 4] rfl ?_
      obtain ⟨⟨p1, p2⟩, H⟩ := guard_t H
      refine HJ.q (i := 2) rfl rfl rfl rfl rfl rfl (q_byte ttok rfl rfl rfl rfl p1 p2) ?_
      obtain ⟨⟨p3, p4⟩, H⟩ := guard_t H
      refine HJ.q (i := 5) rfl rfl rfl rfl rfl rfl (q_byte ttok rfl rfl rfl rfl p3 p4) ?_
      refine HJ.run ttok rfl [6] rfl ?_
      refine HJ.fin [(0, .string ⟨⟨a0⟩⟩), (1, .string ⟨⟨a1⟩⟩), (5, .int .i64 (if (a1.length : Int) < (a0.length : Int) then (a1.length : Int) else (a0.length : Int))), (6, .int .i64 x1), (12, .int .i64 (if (a1.length : Int) < (a0.length : Int) then (a1.length : Int) else (a0.length : Int))), (13, .int .i64 x1), (22, .bool (!decide ((gtb a0 x1) = (gtb a1 x1))))] rfl rfl ?_
      refine J.cond rfl (fun c2 => ?_) (fun c2 => ?_)
      · replace H := ite_t c2 H
        refine J.seq ?_
        refine J.region ?_
        refine RJ.run ttok 2 rfl ?_
        refine RJ.fin [(4, .int .i64 x1)] rfl ?_
        refine J.ret ?_
        obtain rfl := Option.some.inj H
        exact ⟨_, _, _, (results_slots rfl), ⟨rfl, rfl⟩, h2.only [] rfl⟩
      · replace H := ite_f c2 H
        refine J.skip ?_
        refine J.region ?_
        refine RJ.run ttok 2 rfl ?_
        refine RJ.fin [(0, .string ⟨⟨a0⟩⟩), (1, .string ⟨⟨a1⟩⟩), (5, .int .i64 (if (a1.length : Int) < (a0.length : Int) then (a1.length : Int) else (a0.length : Int))), (12, .int .i64 (if (a1.length : Int) < (a0.length : Int) then (a1.length : Int) else (a0.length : Int))), (13, .int .i64 (w64 (x1 + 1)))] rfl ?_
        have h3 := ((h2.only [] rfl).rds [] rfl)
        exact ⟨k1, by omega, (w64 (x1 + 1)), rfl, h3, H⟩
    · replace H := ite_f c1 H
      refine J.exit ?_
      refine J.seq ?_
      refine J.region ?_
      refine RJ.run ttok 2 rfl ?_
      refine RJ.fin [(4, .int .i64 (if (a1.length : Int) < (a0.length : Int) then (a1.length : Int) else (a0.length : Int)))] rfl ?_
      refine J.ret ?_
      obtain rfl := Option.some.inj H
      exact ⟨_, _, _, (results_slots rfl), ⟨rfl, rfl⟩, h1.only [] rfl⟩

/-! sluicegate/lex.Cut -/
def lex_Cut.f (k : Nat) (a0 : List UInt8) (a1 : List UInt8) : Option (List UInt8 × Bool) := if (!Op.bytesLess a0 a1) = true then (some (([] : List UInt8), false)) else ((lex_Shared.f k a0 a1).bind fun r1 => (if (0 : Int) ≤ (w64 (r1 + 1)) ∧ (w64 (r1 + 1)) ≤ (a1.length : Int) then (some ((a1.take ((w64 (r1 + 1))).toNat), true)) else none))
set_option maxRecDepth 20000 in
set_option maxHeartbeats 4000000 in
theorem lex_Cut.spec {k : Nat} {a0 : List UInt8} {a1 : List UInt8}  {r : List UInt8 × Bool} (H : lex_Cut.f k a0 a1 = some r) :
    Spec Try.prog 85 [.string ⟨⟨a0⟩⟩, .string ⟨⟨a1⟩⟩] [] [] (fun v l => v = .tuple #[.string ⟨⟨r.1⟩⟩, .bool r.2] ∧ l = []) := by
  refine Spec.enter Try.func85 rfl (by kernel_rfl) (by kernel_rfl) fun w0 F0 h0 => ?_
  unfold lex_Cut.f at H
  refine J.seq ?_
  refine J.region ?_
  refine RJ.run ttok 2 rfl ?_
  refine RJ.fin [(0, .string ⟨⟨a0⟩⟩), (1, .string ⟨⟨a1⟩⟩)] rfl ?_
  refine J.seq ?_
  refine J.seq ?_
  refine J.region ?_
  refine RJ.run ttok 3 rfl ?_
  refine RJ.fin [(0, .string ⟨⟨a0⟩⟩), (1, .string ⟨⟨a1⟩⟩), (8, .bool (!Op.bytesLess a0 a1))] rfl ?_
  refine J.cond rfl (fun c1 => ?_) (fun c1 => ?_)
  · replace H := ite_t c1 H
    refine J.seq ?_
    refine J.region ?_
    refine RJ.run ttok 2 rfl ?_
    refine RJ.fin [(4, .string ⟨⟨([] : List UInt8)⟩⟩), (5, .bool false)] rfl ?_
    refine J.ret ?_
    obtain rfl := Option.some.inj H
    exact ⟨_, _, _, (results_slots rfl), ⟨rfl, rfl⟩, h0.only [] rfl⟩
  · replace H := ite_f c1 H
    refine J.skip ?_
    refine J.seq ?_
    refine J.region ?_
    refine RJ.run ttok 3 rfl ?_
    obtain ⟨r1, q1, H⟩ := bind_t H
    refine RJ.op rfl rfl (op_call [] (lex_Shared.spec q1) rfl rfl rfl h0 rfl gnil) ?_
    rintro _ w1 ⟨_, ⟨rfl, rfl⟩, h1⟩
    refine RJ.run ttok 1 rfl ?_
    obtain ⟨⟨p1, p2⟩, H⟩ := guard_t H
    refine RJ.q rfl rfl (q_strcut (l := 0) (h := (w64 (r1 + 1))) ttok rfl rfl rfl rfl ⟨_, rfl⟩ (by decide) p1 p2 (cut_upto _ _)) ?_
    refine RJ.run ttok 2 rfl ?_
    refine RJ.fin [(4, .string ⟨⟨(a1.take ((w64 (r1 + 1))).toNat)⟩⟩), (5, .bool true)] rfl ?_
    refine J.ret ?_
    obtain rfl := Option.some.inj H
    exact ⟨_, _, _, (results_slots rfl), ⟨rfl, rfl⟩, h1.only [] rfl⟩

/-! sluicegate/leaf.Halve -/
def leaf_Halve.f (k : Nat) (a0 : List (List UInt8 × List UInt8)) : Option ((List (List UInt8 × List UInt8)) × (List (List UInt8 × List UInt8)) × List UInt8 × Bool) := if (decide ((a0.length : Int) < 2)) = true then (some (([] : List (List UInt8 × List UInt8)), ([] : List (List UInt8 × List UInt8)), ([] : List UInt8), false)) else (if 0 ≤ (w64 ((w64 (Int.tdiv (w64 ((a0.length : Int) + 1)) 2)) - 1)) ∧ (w64 ((w64 (Int.tdiv (w64 ((a0.length : Int) + 1)) 2)) - 1)) < (a0.length : Int) then (if 0 ≤ (w64 (Int.tdiv (w64 ((a0.length : Int) + 1)) 2)) ∧ (w64 (Int.tdiv (w64 ((a0.length : Int) + 1)) 2)) < (a0.length : Int) then ((lex_Cut.f k ((gt a0 (w64 ((w64 (Int.tdiv (w64 ((a0.length : Int) + 1)) 2)) - 1))).1) ((gt a0 (w64 (Int.tdiv (w64 ((a0.length : Int) + 1)) 2))).1)).bind fun r1 => (if (0 : Int) ≤ (w64 (Int.tdiv (w64 ((a0.length : Int) + 1)) 2)) ∧ (w64 (Int.tdiv (w64 ((a0.length : Int) + 1)) 2)) ≤ (a0.length : Int) then (if 0 ≤ (w64 (Int.tdiv (w64 ((a0.length : Int) + 1)) 2)) ∧ (w64 (Int.tdiv (w64 ((a0.length : Int) + 1)) 2)) ≤ (a0.length : Int) then ((slices_Clone_api_Pair_api_Pair.f (a0.take ((w64 (Int.tdiv (w64 ((a0.length : Int) + 1)) 2))).toNat)).bind fun r2 => ((slices_Clone_api_Pair_api_Pair.f (a0.drop ((w64 (Int.tdiv (w64 ((a0.length : Int) + 1)) 2))).toNat)).bind fun r3 => (some (r2, r3, r1.1, true)))) else none) else none)) else none) else none)
set_option maxRecDepth 20000 in
set_option maxHeartbeats 4000000 in
theorem leaf_Halve.spec {k : Nat} {a0 : List (List UInt8 × List UInt8)} {A1 : Option Addr} {c_1 : Nat} {r : (List (List UInt8 × List UInt8)) × (List (List UInt8 × List UInt8)) × List UInt8 × Bool} (H : leaf_Halve.f k a0 = some r) :
    Spec Try.prog 50 [.slice A1 a0.length c_1] [] [rdC 50 (.pair .str .str) a0 (.slice A1 a0.length c_1)] (fun v l => ∃ (A_0 : Option Addr) (c_0 : Nat) (A_1 : Option Addr) (c_1 : Nat), v = .tuple #[.slice A_0 r.1.length c_0, .slice A_1 r.2.1.length c_1, .string ⟨⟨r.2.2.1⟩⟩, .bool r.2.2.2] ∧ l = [ownC 50 (.pair .str .str) r.1 (.slice A_0 r.1.length c_0), ownC 50 (.pair .str .str) r.2.1 (.slice A_1 r.2.1.length c_1)]) := by
  refine Spec.enter Try.func50 rfl (by kernel_rfl) (by kernel_rfl) fun w0 F0 h0 => ?_
  unfold leaf_Halve.f at H
  refine J.seq ?_
  refine J.region ?_
  refine RJ.run ttok 4 rfl ?_
  refine RJ.fin [(0, .slice A1 a0.length c_1)] rfl ?_
  refine J.seq ?_
  refine J.seq ?_
  refine J.region ?_
  refine RJ.run ttok 3 rfl ?_
  refine RJ.fin [(0, .slice A1 a0.length c_1), (9, .bool (decide ((a0.length : Int) < 2)))] rfl ?_
  refine J.cond rfl (fun c1 => ?_) (fun c1 => ?_)
  · replace H := ite_t c1 H
    refine J.seq ?_
    refine J.region ?_
    refine RJ.run ttok 4 rfl ?_
    refine RJ.fin [(2, .slice none ([] : List (List UInt8 × List UInt8)).length 0), (3, .slice none ([] : List (List UInt8 × List UInt8)).length 0), (4, .string ⟨⟨([] : List UInt8)⟩⟩), (5, .bool false)] rfl ?_
    refine J.ret ?_
    have h1 := h0.addNil 50 (.pair .str .str)
    have h2 := h1.addNil 50 (.pair .str .str)
    obtain rfl := Option.some.inj H
    exact ⟨_, _, _, (results_slots rfl), ⟨_, _, _, _, rfl, rfl⟩, h2.only [1, 0] rfl⟩
  · replace H := ite_f c1 H
    refine J.skip ?_
    refine J.seq ?_
    refine J.region ?_
    refine RJ.run ttok 5 rfl ?_
    refine RJ.fin [(0, .slice A1 a0.length c_1), (6, .int .i64 (w64 (Int.tdiv (w64 ((a0.length : Int) + 1)) 2)))] rfl ?_
    refine J.seq ?_
    refine J.heldSt mix h0 ?_
    have h3 := h0.drew
    refine HJ.run ttok rfl [0, 1, 2, 6, 7] rfl ?_
    obtain ⟨⟨p1, p2⟩, H⟩ := guard_t H
    have e1 := elem_A h3.wh (Gives.self 0 rfl) p1 p2
    refine HJ.q (i := 3) rfl rfl rfl rfl rfl rfl (q_index ttok rfl rfl rfl rfl rfl e1 p1 p2) ?_
    refine HJ.run ttok rfl [4] rfl ?_
    refine HJ.q (i := 5) rfl rfl rfl rfl rfl rfl (q_load_elem (f := 0) ttok rfl (fun w e => e) (Gives.self 0 rfl) p1 p2 rfl rfl rfl rfl rfl) ?_
    obtain ⟨⟨p3, p4⟩, H⟩ := guard_t H
    refine HJ.q (i := 8) rfl rfl rfl rfl rfl rfl (q_index ttok rfl rfl rfl rfl rfl e1 p3 p4) ?_
    refine HJ.run ttok rfl [9] rfl ?_
    refine HJ.q (i := 10) rfl rfl rfl rfl rfl rfl (q_load_elem (f := 0) ttok rfl (fun w e => e) (Gives.self 0 rfl) p3 p4 rfl rfl rfl rfl rfl) ?_
    obtain ⟨r1, q1, H⟩ := bind_t H
    refine HJ.op (i := 11) rfl rfl rfl rfl rfl (op_call [] (lex_Cut.spec q1) rfl rfl rfl h3 rfl gnil) ?_
    rintro _ w1 ⟨_, ⟨rfl, rfl⟩, h4⟩
    refine ⟨⟨[], h4⟩, ?_⟩
    refine HJ.run ttok rfl [12, 13, 14, 15] rfl ?_
    refine HJ.fin [(0, .slice A1 a0.length c_1), (4, .string ⟨⟨r1.1⟩⟩), (6, .int .i64 (w64 (Int.tdiv (w64 ((a0.length : Int) + 1)) 2)))] rfl rfl ?_
    refine J.seq ?_
    refine J.heldSt mix h4 ?_
    have h5 := h4.drew
    refine HJ.run ttok rfl [0, 1, 4, 5, 8] rfl ?_
    obtain ⟨⟨p5, p6⟩, H⟩ := guard_t H
    have e2 := h5.cap (Gives.self 0 rfl)
    refine HJ.q (i := 2) rfl rfl rfl rfl rfl rfl (q_cut0 (h := (w64 (Int.tdiv (w64 ((a0.length : Int) + 1)) 2))) (sub := (a0.take ((w64 (Int.tdiv (w64 ((a0.length : Int) + 1)) 2))).toNat)) ttok rfl rfl rfl rfl e2 ⟨_, rfl⟩ p5 p6 rfl) ?_
    obtain ⟨⟨p7, p8⟩, H⟩ := guard_t H
    have e3 := h5.cap (Gives.self 0 rfl)
    refine HJ.q (i := 6) rfl rfl rfl rfl rfl rfl (q_cut (l := (w64 (Int.tdiv (w64 ((a0.length : Int) + 1)) 2))) (h := (a0.length : Int)) (sub := (a0.drop ((w64 (Int.tdiv (w64 ((a0.length : Int) + 1)) 2))).toNat)) ttok rfl rfl rfl rfl e3 ⟨_, rfl⟩ rfl p7 p8 (Int.le_refl _) (cut_from _ _)) ?_
    obtain ⟨r2, q2, H⟩ := bind_t H
    refine HJ.op (i := 3) rfl rfl rfl rfl rfl (op_call [] (slices_Clone_api_Pair_api_Pair.spec q2) rfl rfl rfl h5 rfl (gcons ((Gives.self 0 rfl).trans (rd_cut0 (ty := (.pair .str .str)) (h := (w64 (Int.tdiv (w64 ((a0.length : Int) + 1)) 2))) (sub := (a0.take ((w64 (Int.tdiv (w64 ((a0.length : Int) + 1)) 2))).toNat)) p5 p6 rfl)) gnil)) ?_
    rintro _ w2 ⟨_, ⟨A2, c_2, rfl, rfl⟩, h6⟩
    refine ⟨⟨[_], h6⟩, ?_⟩
    obtain ⟨r3, q3, H⟩ := bind_t H
    refine HJ.op (i := 7) rfl rfl rfl rfl rfl (op_call [] (slices_Clone_api_Pair_api_Pair.spec q3) rfl rfl rfl h6 rfl (gcons ((Gives.self 1 rfl).trans (rd_cut (ty := (.pair .str .str)) (l := (w64 (Int.tdiv (w64 ((a0.length : Int) + 1)) 2))) (h := (a0.length : Int)) (sub := (a0.drop ((w64 (Int.tdiv (w64 ((a0.length : Int) + 1)) 2))).toNat)) rfl p7 p8 (Int.le_refl _) (cut_from _ _))) gnil)) ?_
    rintro _ w3 ⟨_, ⟨A3, c_3, rfl, rfl⟩, h7⟩
    refine ⟨⟨[_, _], h7⟩, ?_⟩
    refine HJ.run ttok rfl [9, 10, 11, 12] rfl ?_
    refine HJ.fin [(2, .slice A2 r2.length c_2), (3, .slice A3 r3.length c_3), (4, .string ⟨⟨r1.1⟩⟩), (5, .bool true)] rfl rfl ?_
    refine J.ret ?_
    obtain rfl := Option.some.inj H
    exact ⟨_, _, _, (results_slots rfl), ⟨_, _, _, _, rfl, rfl⟩, h7.only [1, 0] rfl⟩

/-! sluicegate/sluicegateref11.Same -/
def sluicegateref11_Same.l0 : Nat → (List (List UInt8 × List UInt8)) → (List (List UInt8 × List UInt8)) → (Int) → Option (Bool)
  | 0, _, _, _ => none
  | k + 1, a0, a1, x1 => if (decide (x1 < (a0.length : Int))) = true then (if 0 ≤ x1 ∧ x1 < (a0.length : Int) then (if 0 ≤ x1 ∧ x1 < (a1.length : Int) then (if (!((decide (((gt a0 x1).1) = ((gt a1 x1).1))) && ((decide (((gt a0 x1).2) = ((gt a1 x1).2))) && true))) = true then (some false) else (sluicegateref11_Same.l0 k a0 a1 (w64 (x1 + 1)))) else none) else none) else (some true)
def sluicegateref11_Same.f (k : Nat) (a0 : List (List UInt8 × List UInt8)) (a1 : List (List UInt8 × List UInt8)) : Option (Bool) := if (!decide ((a0.length : Int) = (a1.length : Int))) = true then (some false) else (sluicegateref11_Same.l0 k a0 a1 0)
set_option maxRecDepth 20000 in
set_option maxHeartbeats 4000000 in
theorem sluicegateref11_Same.spec {k : Nat} {a0 : List (List UInt8 × List UInt8)} {a1 : List (List UInt8 × List UInt8)} {A1 : Option Addr} {c_1 : Nat} {A2 : Option Addr} {c_2 : Nat} {r : Bool} (H : sluicegateref11_Same.f k a0 a1 = some r) :
    Spec Try.prog 44 [.slice A1 a0.length c_1, .slice A2 a1.length c_2] [] [rdC 50 (.pair .str .str) a0 (.slice A1 a0.length c_1), rdC 50 (.pair .str .str) a1 (.slice A2 a1.length c_2)] (fun v l => v = .bool r ∧ l = []) := by
  refine Spec.enter Try.func44 rfl (by kernel_rfl) (by kernel_rfl) fun w0 F0 h0 => ?_
  unfold sluicegateref11_Same.f at H
  refine J.seq ?_
  refine J.region ?_
  refine RJ.run ttok 1 rfl ?_
  refine RJ.fin [(0, .slice A1 a0.length c_1), (1, .slice A2 a1.length c_2)] rfl ?_
  refine J.seq ?_
  refine J.seq ?_
  refine J.region ?_
  refine RJ.run ttok 5 rfl ?_
  refine RJ.fin [(0, .slice A1 a0.length c_1), (1, .slice A2 a1.length c_2), (10, .bool (!decide ((a0.length : Int) = (a1.length : Int))))] rfl ?_
  refine J.cond rfl (fun c1 => ?_) (fun c1 => ?_)
  · replace H := ite_t c1 H
    refine J.seq ?_
    refine J.region ?_
    refine RJ.run ttok 1 rfl ?_
    refine RJ.fin [(4, .bool false)] rfl ?_
    refine J.ret ?_
    obtain rfl := Option.some.inj H
    exact ⟨_, _, _, (results_slots rfl), ⟨rfl, rfl⟩, h0.only [] rfl⟩
  · replace H := ite_f c1 H
    refine J.skip ?_
    refine J.seq ?_
    refine J.seq ?_
    refine J.region ?_
    refine RJ.run ttok 1 rfl ?_
    refine RJ.fin [(0, .slice A1 a0.length c_1), (1, .slice A2 a1.length c_2), (5, .int .i64 0)] rfl ?_
    refine J.block ?_
    have h4 := ((h0.only [] rfl).rds [0, 1] rfl)
    refine J.loop (fun k env w => ∃ (x1 : Int), env = [(0, .slice A1 a0.length c_1), (1, .slice A2 a1.length c_2), (5, .int .i64 x1)] ∧ St w0 F0 [] [rdC 50 (.pair .str .str) a0 (.slice A1 a0.length c_1), rdC 50 (.pair .str .str) a1 (.slice A2 a1.length c_2)] w ∧ sluicegateref11_Same.l0 k a0 a1 x1 = some r) (k := k) ⟨0, rfl, h4, H⟩ ?_
    rintro k1 env w1 ⟨x1, rfl, h1, H⟩
    cases k1 with
    | zero => exact nomatch (show none = some r from H)
    | succ k1 =>
      rw [sluicegateref11_Same.l0] at H
      refine J.seq ?_
      refine J.seq ?_
      refine J.region ?_
      refine RJ.run ttok 4 rfl ?_
      refine RJ.fin [(0, .slice A1 a0.length c_1), (1, .slice A2 a1.length c_2), (5, .int .i64 x1), (14, .bool (decide (x1 < (a0.length : Int))))] rfl ?_
      refine J.cond rfl (fun c2 => ?_) (fun c2 => ?_)
      · replace H := ite_t c2 H
        refine J.skip ?_
        refine J.seq ?_
        refine J.block ?_
        refine J.seq ?_
        refine J.heldSt mix h1 ?_
        have h2 := h1.drew
        refine HJ.run ttok rfl [0, 1, 4, 5] rfl ?_
        obtain ⟨⟨p1, p2⟩, H⟩ := guard_t H
        have e1 := elem_A h2.wh (Gives.self 0 rfl) p1 p2
        refine HJ.q (i := 2) rfl rfl rfl rfl rfl rfl (q_index ttok rfl rfl rfl rfl rfl e1 p1 p2) ?_
        refine HJ.q (i := 3) rfl rfl rfl rfl rfl rfl (q_load_elem (f := 0) ttok rfl (fun w e => e) (Gives.self 0 rfl) p1 p2 rfl rfl rfl rfl rfl) ?_
        obtain ⟨⟨p3, p4⟩, H⟩ := guard_t H
        have e2 := elem_A h2.wh (Gives.self 1 rfl) p3 p4
        refine HJ.q (i := 6) rfl rfl rfl rfl rfl rfl (q_index ttok rfl rfl rfl rfl rfl e2 p3 p4) ?_
        refine HJ.q (i := 7) rfl rfl rfl rfl rfl rfl (q_load_elem (f := 0) ttok rfl (fun w e => e) (Gives.self 1 rfl) p3 p4 rfl rfl rfl rfl rfl) ?_
        refine HJ.run ttok rfl [8] rfl ?_
        refine HJ.fin [(0, .slice A1 a0.length c_1), (1, .slice A2 a1.length c_2), (5, .int .i64 x1), (25, .bool (!((decide (((gt a0 x1).1) = ((gt a1 x1).1))) && ((decide (((gt a0 x1).2) = ((gt a1 x1).2))) && true))))] rfl rfl ?_
        refine J.cond rfl (fun c3 => ?_) (fun c3 => ?_)
        · replace H := ite_t c3 H
          refine J.seq ?_
          refine J.region ?_
          refine RJ.run ttok 1 rfl ?_
          refine RJ.fin [(4, .bool false)] rfl ?_
          refine J.ret ?_
          obtain rfl := Option.some.inj H
          exact ⟨_, _, _, (results_slots rfl), ⟨rfl, rfl⟩, h2.only [] rfl⟩
        · replace H := ite_f c3 H
          refine J.skip ?_
          refine J.region ?_
          refine RJ.run ttok 3 rfl ?_
          refine RJ.fin [(0, .slice A1 a0.length c_1), (1, .slice A2 a1.length c_2), (5, .int .i64 (w64 (x1 + 1)))] rfl ?_
          have h3 := ((h2.only [] rfl).rds [0, 1] rfl)
          exact ⟨k1, by omega, (w64 (x1 + 1)), rfl, h3, H⟩
      · replace H := ite_f c2 H
        refine J.exit ?_
        refine J.seq ?_
        refine J.region ?_
        refine RJ.run ttok 1 rfl ?_
        refine RJ.fin [(4, .bool true)] rfl ?_
        refine J.ret ?_
        obtain rfl := Option.some.inj H
        exact ⟨_, _, _, (results_slots rfl), ⟨rfl, rfl⟩, h1.only [] rfl⟩

/-! sluicegate/leaf.Right -/
def leaf_Right.l0 : Nat → (List (List UInt8 × List UInt8)) → (Int) → Option (Bool)
  | 0, _, _ => none
  | k + 1, a0, x1 => if (decide (x1 < (w64 ((a0.length : Int) - 1)))) = true then (if 0 ≤ x1 ∧ x1 < (a0.length : Int) then (if 0 ≤ (w64 (x1 + 1)) ∧ (w64 (x1 + 1)) < (a0.length : Int) then ((lex_Compare.f ((gt a0 x1).1) ((gt a0 (w64 (x1 + 1))).1)).bind fun r1 => (if (decide (0 ≤ r1)) = true then (some false) else (leaf_Right.l0 k a0 (w64 (x1 + 1))))) else none) else none) else (some true)
def leaf_Right.f (k : Nat) (a0 : List (List UInt8 × List UInt8)) : Option (Bool) := leaf_Right.l0 k a0 0
set_option maxRecDepth 20000 in
set_option maxHeartbeats 4000000 in
theorem leaf_Right.spec {k : Nat} {a0 : List (List UInt8 × List UInt8)} {A1 : Option Addr} {c_1 : Nat} {r : Bool} (H : leaf_Right.f k a0 = some r) :
    Spec Try.prog 53 [.slice A1 a0.length c_1] [] [rdC 50 (.pair .str .str) a0 (.slice A1 a0.length c_1)] (fun v l => v = .bool r ∧ l = []) := by
  refine Spec.enter Try.func53 rfl (by kernel_rfl) (by kernel_rfl) fun w0 F0 h0 => ?_
  unfold leaf_Right.f at H
  refine J.seq ?_
  refine J.region ?_
  refine RJ.run ttok 1 rfl ?_
  refine RJ.fin [(0, .slice A1 a0.length c_1)] rfl ?_
  refine J.seq ?_
  refine J.seq ?_
  refine J.region ?_
  refine RJ.run ttok 4 rfl ?_
  refine RJ.fin [(0, .slice A1 a0.length c_1), (6, .int .i64 (w64 ((a0.length : Int) - 1))), (7, .int .i64 0)] rfl ?_
  refine J.block ?_
  have h5 := ((h0.only [] rfl).rds [0] rfl)
  refine J.loop (fun k env w => ∃ (x1 : Int), env = [(0, .slice A1 a0.length c_1), (6, .int .i64 (w64 ((a0.length : Int) - 1))), (7, .int .i64 x1)] ∧ St w0 F0 [] [rdC 50 (.pair .str .str) a0 (.slice A1 a0.length c_1)] w ∧ leaf_Right.l0 k a0 x1 = some r) (k := k) ⟨0, rfl, h5, H⟩ ?_
  rintro k1 env w1 ⟨x1, rfl, h1, H⟩
  cases k1 with
  | zero => exact nomatch (show none = some r from H)
  | succ k1 =>
    rw [leaf_Right.l0] at H
    refine J.seq ?_
    refine J.region ?_
    refine RJ.run ttok 1 rfl ?_
    refine RJ.fin [(0, .slice A1 a0.length c_1), (6, .int .i64 (w64 ((a0.length : Int) - 1))), (7, .int .i64 x1), (8, .bool (decide (x1 < (w64 ((a0.length : Int) - 1)))))] rfl ?_
    refine J.seq ?_
    refine J.cond rfl (fun c1 => ?_) (fun c1 => ?_)
    · replace H := ite_t c1 H
      refine J.skip ?_
      refine J.seq ?_
      refine J.block ?_
      refine J.seq ?_
      refine J.region ?_
      refine RJ.run ttok 2 rfl ?_
      refine RJ.fin [(0, .slice A1 a0.length c_1), (3, .int .i64 x1), (6, .int .i64 (w64 ((a0.length : Int) - 1))), (7, .int .i64 x1)] rfl ?_
      refine J.seq ?_
      refine J.heldSt mix h1 ?_
      have h2 := h1.drew
      refine HJ.run ttok rfl [0, 1, 5, 6, 7] rfl ?_
      obtain ⟨⟨p1, p2⟩, H⟩ := guard_t H
      have e1 := elem_A h2.wh (Gives.self 0 rfl) p1 p2
      refine HJ.q (i := 2) rfl rfl rfl rfl rfl rfl (q_index ttok rfl rfl rfl rfl rfl e1 p1 p2) ?_
      refine HJ.run ttok rfl [3] rfl ?_
      refine HJ.q (i := 4) rfl rfl rfl rfl rfl rfl (q_load_elem (f := 0) ttok rfl (fun w e => e) (Gives.self 0 rfl) p1 p2 rfl rfl rfl rfl rfl) ?_
      obtain ⟨⟨p3, p4⟩, H⟩ := guard_t H
      refine HJ.q (i := 8) rfl rfl rfl rfl rfl rfl (q_index ttok rfl rfl rfl rfl rfl e1 p3 p4) ?_
      refine HJ.run ttok rfl [9] rfl ?_
      refine HJ.q (i := 10) rfl rfl rfl rfl rfl rfl (q_load_elem (f := 0) ttok rfl (fun w e => e) (Gives.self 0 rfl) p3 p4 rfl rfl rfl rfl rfl) ?_
      obtain ⟨r1, q1, H⟩ := bind_t H
      refine HJ.op (i := 11) rfl rfl rfl rfl rfl (op_call [] (lex_Compare.spec q1) rfl rfl rfl h2 rfl gnil) ?_
      rintro _ w2 ⟨_, ⟨rfl, rfl⟩, h3⟩
      refine ⟨⟨[], h3⟩, ?_⟩
      refine HJ.run ttok rfl [12] rfl ?_
      refine HJ.fin [(0, .slice A1 a0.length c_1), (6, .int .i64 (w64 ((a0.length : Int) - 1))), (7, .int .i64 x1), (22, .bool (decide (0 ≤ r1)))] rfl rfl ?_
      refine J.cond rfl (fun c2 => ?_) (fun c2 => ?_)
      · replace H := ite_t c2 H
        refine J.seq ?_
        refine J.region ?_
        refine RJ.run ttok 1 rfl ?_
        refine RJ.fin [(2, .bool false)] rfl ?_
        refine J.ret ?_
        obtain rfl := Option.some.inj H
        exact ⟨_, _, _, (results_slots rfl), ⟨rfl, rfl⟩, h3.only [] rfl⟩
      · replace H := ite_f c2 H
        refine J.skip ?_
        refine J.region ?_
        refine RJ.run ttok 2 rfl ?_
        refine RJ.fin [(0, .slice A1 a0.length c_1), (6, .int .i64 (w64 ((a0.length : Int) - 1))), (7, .int .i64 (w64 (x1 + 1)))] rfl ?_
        have h4 := ((h3.only [] rfl).rds [0] rfl)
        exact ⟨k1, by omega, (w64 (x1 + 1)), rfl, h4, H⟩
    · replace H := ite_f c1 H
      refine J.exit ?_
      refine J.seq ?_
      refine J.region ?_
      refine RJ.run ttok 1 rfl ?_
      refine RJ.fin [(2, .bool true)] rfl ?_
      refine J.ret ?_
      obtain rfl := Option.some.inj H
      exact ⟨_, _, _, (results_slots rfl), ⟨rfl, rfl⟩, h1.only [] rfl⟩

/-! sluicegate/sluicegatelaw11.awake -/
def sluicegatelaw11_awake.f (k : Nat)  : Option (Bool) := (leaf_Apply.f k ([(([97] : List UInt8), ([49] : List UInt8)), (([99] : List UInt8), ([51] : List UInt8))] : List (List UInt8 × List UInt8)) ([(([98] : List UInt8), false, ([50] : List UInt8)), (([97] : List UInt8), true, ([] : List UInt8))] : List (List UInt8 × Bool × List UInt8))).bind fun r1 => ((leaf_Halve.f k ([(([97] : List UInt8), ([] : List UInt8)), (([97, 98] : List UInt8), ([] : List UInt8)), (([98] : List UInt8), ([] : List UInt8))] : List (List UInt8 × List UInt8))).bind fun r2 => ((sluicegateref11_Same.f k r1 ([(([98] : List UInt8), ([50] : List UInt8)), (([99] : List UInt8), ([51] : List UInt8))] : List (List UInt8 × List UInt8))).bind fun r3 => (if r3 = true then (if (decide (r2.2.2.1 = ([98] : List UInt8))) = true then (if r2.2.2.2 = true then ((leaf_Right.f k r1).bind fun r4 => (some r4)) else (some false)) else (some false)) else (some false))))
set_option maxRecDepth 20000 in
set_option maxHeartbeats 4000000 in
theorem sluicegatelaw11_awake.spec {k : Nat}   {r : Bool} (H : sluicegatelaw11_awake.f k  = some r) :
    Spec Try.prog 42 [] [] [] (fun v l => v = .bool r ∧ l = []) := by
  refine Spec.enter Try.func42 rfl (by kernel_rfl) (by kernel_rfl) fun w0 F0 h0 => ?_
  unfold sluicegatelaw11_awake.f at H
  refine J.seq ?_
  refine J.region ?_
  refine RJ.run ttok 1 rfl ?_
  refine RJ.fin [] rfl ?_
  refine J.seq ?_
  refine J.region ?_
  refine RJ.run ttok 2 rfl ?_
  refine RJ.op rfl rfl (op_lit ttok (.pair .str .str) rfl ([(([97] : List UInt8), ([49] : List UInt8)), (([99] : List UInt8), ([51] : List UInt8))] : List (List UInt8 × List UInt8)) rfl h0 rfl rfl (by decide) rfl rfl rfl rfl rfl rfl rfl) ?_
  rintro _ w1 ⟨b1, rfl, h1⟩
  refine RJ.run ttok 2 rfl ?_
  refine RJ.op rfl rfl (op_lit ttok (.pair .str (.pair .bool .str)) rfl ([(([98] : List UInt8), false, ([50] : List UInt8)), (([97] : List UInt8), true, ([] : List UInt8))] : List (List UInt8 × Bool × List UInt8)) rfl h1 rfl rfl (by decide) rfl rfl rfl rfl rfl rfl rfl) ?_
  rintro _ w2 ⟨b2, rfl, h2⟩
  obtain ⟨r1, q1, H⟩ := bind_t H
  refine RJ.op rfl rfl (op_call [] (leaf_Apply.spec q1) rfl rfl rfl h2 rfl (gcons (Gives.of 1 rfl own_rd) (gcons (Gives.of 0 rfl own_rd) gnil))) ?_
  rintro _ w3 ⟨_, ⟨A1, c_1, rfl, rfl⟩, h3⟩
  refine RJ.run ttok 1 rfl ?_
  refine RJ.fin [(1, .slice A1 r1.length c_1)] rfl ?_
  refine J.seq ?_
  refine J.region ?_
  refine RJ.run ttok 3 rfl ?_
  refine RJ.op rfl rfl (op_lit ttok (.pair .str .str) rfl ([(([97] : List UInt8), ([] : List UInt8)), (([97, 98] : List UInt8), ([] : List UInt8)), (([98] : List UInt8), ([] : List UInt8))] : List (List UInt8 × List UInt8)) rfl h3 rfl rfl (by decide) rfl rfl rfl rfl rfl rfl rfl) ?_
  rintro _ w4 ⟨b3, rfl, h4⟩
  obtain ⟨r2, q2, H⟩ := bind_t H
  refine RJ.op rfl rfl (op_call [] (leaf_Halve.spec q2) rfl rfl rfl h4 rfl (gcons (Gives.of 0 rfl own_rd) gnil)) ?_
  rintro _ w5 ⟨_, ⟨A2, c_2, A3, c_3, rfl, rfl⟩, h5⟩
  refine RJ.run ttok 9 rfl ?_
  refine RJ.fin [(1, .slice A1 r1.length c_1), (4, .string ⟨⟨r2.2.2.1⟩⟩), (5, .bool r2.2.2.2)] rfl ?_
  refine J.seq ?_
  refine J.region ?_
  refine RJ.run ttok 3 rfl ?_
  refine RJ.op rfl rfl (op_lit ttok (.pair .str .str) rfl ([(([98] : List UInt8), ([50] : List UInt8)), (([99] : List UInt8), ([51] : List UInt8))] : List (List UInt8 × List UInt8)) rfl h5 rfl rfl (by decide) rfl rfl rfl rfl rfl rfl rfl) ?_
  rintro _ w6 ⟨b4, rfl, h6⟩
  obtain ⟨r3, q3, H⟩ := bind_t H
  refine RJ.op rfl rfl (op_call [] (sluicegateref11_Same.spec q3) rfl rfl rfl h6 rfl (gcons (Gives.of 4 rfl own_rd) (gcons (Gives.of 0 rfl own_rd) gnil))) ?_
  rintro _ w7 ⟨_, ⟨rfl, rfl⟩, h7⟩
  refine RJ.run ttok 1 rfl ?_
  rcases Bool.eq_false_or_eq_true r3 with c1 | c1
  · replace H := ite_t c1 H
    refine RJ.know (t := 28) rfl (congrArg Value.bool c1) ?_
    refine RJ.run ttok 4 rfl ?_
    rcases Bool.eq_false_or_eq_true (decide (r2.2.2.1 = ([98] : List UInt8))) with c2 | c2
    · replace H := ite_t c2 H
      refine RJ.know (t := 32) rfl (congrArg Value.bool c2) ?_
      refine RJ.run ttok 3 rfl ?_
      rcases Bool.eq_false_or_eq_true r2.2.2.2 with c3 | c3
      · replace H := ite_t c3 H
        refine RJ.know (t := 35) rfl (congrArg Value.bool c3) ?_
        refine RJ.run ttok 1 rfl ?_
        obtain ⟨r4, q4, H⟩ := bind_t H
        refine RJ.op rfl rfl (op_call [] (leaf_Right.spec q4) rfl rfl rfl h7 rfl (gcons (Gives.of 4 rfl own_rd) gnil)) ?_
        rintro _ w8 ⟨_, ⟨rfl, rfl⟩, h8⟩
        refine RJ.run ttok 2 rfl ?_
        refine RJ.fin [(0, .bool r4)] rfl ?_
        refine J.ret ?_
        obtain rfl := Option.some.inj H
        exact ⟨_, _, _, (results_slots rfl), ⟨rfl, rfl⟩, h8.only [] rfl⟩
      · replace H := ite_f c3 H
        refine RJ.know (t := 35) rfl (congrArg Value.bool c3) ?_
        refine RJ.run ttok 4 rfl ?_
        refine RJ.fin [(0, .bool false)] rfl ?_
        refine J.ret ?_
        obtain rfl := Option.some.inj H
        exact ⟨_, _, _, (results_slots rfl), ⟨rfl, rfl⟩, h7.only [] rfl⟩
    · replace H := ite_f c2 H
      refine RJ.know (t := 32) rfl (congrArg Value.bool c2) ?_
      refine RJ.run ttok 7 rfl ?_
      refine RJ.fin [(0, .bool false)] rfl ?_
      refine J.ret ?_
      obtain rfl := Option.some.inj H
      exact ⟨_, _, _, (results_slots rfl), ⟨rfl, rfl⟩, h7.only [] rfl⟩
  · replace H := ite_f c1 H
    refine RJ.know (t := 28) rfl (congrArg Value.bool c1) ?_
    refine RJ.run ttok 11 rfl ?_
    refine RJ.fin [(0, .bool false)] rfl ?_
    refine J.ret ?_
    obtain rfl := Option.some.inj H
    exact ⟨_, _, _, (results_slots rfl), ⟨rfl, rfl⟩, h7.only [] rfl⟩

/-! sluicegate/sluicegateref01.Compare -/
def sluicegateref01_Compare.l0 : Nat → (List UInt8) → (List UInt8) → (Int) → Option (Int)
  | 0, _, _, _ => none
  | k + 1, a0, a1, x1 => if (decide (x1 < (a0.length : Int))) = true then (if (decide (x1 < (a1.length : Int))) = true then (if 0 ≤ x1 ∧ x1 < (a0.length : Int) then (if 0 ≤ x1 ∧ x1 < (a1.length : Int) then (if (decide ((gtb a0 x1) < (gtb a1 x1))) = true then (some (-1)) else (if (decide ((gtb a1 x1) < (gtb a0 x1))) = true then (some 1) else (sluicegateref01_Compare.l0 k a0 a1 (w64 (x1 + 1))))) else none) else none) else (if (decide ((a0.length : Int) < (a1.length : Int))) = true then (some (-1)) else (if (decide ((a1.length : Int) < (a0.length : Int))) = true then (some 1) else (some 0)))) else (if (decide ((a0.length : Int) < (a1.length : Int))) = true then (some (-1)) else (if (decide ((a1.length : Int) < (a0.length : Int))) = true then (some 1) else (some 0)))
def sluicegateref01_Compare.f (k : Nat) (a0 : List UInt8) (a1 : List UInt8) : Option (Int) := sluicegateref01_Compare.l0 k a0 a1 0
set_option maxRecDepth 20000 in
set_option maxHeartbeats 4000000 in
theorem sluicegateref01_Compare.spec {k : Nat} {a0 : List UInt8} {a1 : List UInt8}  {r : Int} (H : sluicegateref01_Compare.f k a0 a1 = some r) :
    Spec Try.prog 52 [.string ⟨⟨a0⟩⟩, .string ⟨⟨a1⟩⟩] [] [] (fun v l => v = .int .i64 r ∧ l = []) := by
  refine Spec.enter Try.func52 rfl (by kernel_rfl) (by kernel_rfl) fun w0 F0 h0 => ?_
  unfold sluicegateref01_Compare.f at H
  refine J.seq ?_
  refine J.region ?_
  refine RJ.run ttok 1 rfl ?_
  refine RJ.fin [(0, .string ⟨⟨a0⟩⟩), (1, .string ⟨⟨a1⟩⟩)] rfl ?_
  refine J.seq ?_
  refine J.seq ?_
  refine J.region ?_
  refine RJ.run ttok 1 rfl ?_
  refine RJ.fin [(0, .string ⟨⟨a0⟩⟩), (1, .string ⟨⟨a1⟩⟩), (5, .int .i64 0)] rfl ?_
  refine J.block ?_
  have h5 := ((h0.only [] rfl).rds [] rfl)
  refine J.loop (fun k env w => ∃ (x1 : Int), env = [(0, .string ⟨⟨a0⟩⟩), (1, .string ⟨⟨a1⟩⟩), (5, .int .i64 x1)] ∧ St w0 F0 [] [] w ∧ sluicegateref01_Compare.l0 k a0 a1 x1 = some r) (k := k) ⟨0, rfl, h5, H⟩ ?_
  rintro k1 env w1 ⟨x1, rfl, h1, H⟩
  cases k1 with
  | zero => exact nomatch (show none = some r from H)
  | succ k1 =>
    rw [sluicegateref01_Compare.l0] at H
    refine J.seq ?_
    refine J.seq ?_
    refine J.region ?_
    refine RJ.run ttok 5 rfl ?_
    rcases Bool.eq_false_or_eq_true (decide (x1 < (a0.length : Int))) with c1 | c1
    · replace H := ite_t c1 H
      refine RJ.know (t := 10) rfl (congrArg Value.bool c1) ?_
      refine RJ.run ttok 5 rfl ?_
      refine RJ.fin [(0, .string ⟨⟨a0⟩⟩), (1, .string ⟨⟨a1⟩⟩), (5, .int .i64 x1), (15, .bool (decide (x1 < (a1.length : Int))))] rfl ?_
      refine J.cond rfl (fun c2 => ?_) (fun c2 => ?_)
      · replace H := ite_t c2 H
        refine J.skip ?_
        refine J.seq ?_
        refine J.block ?_
        refine J.seq ?_
        refine J.seq ?_
        refine J.heldSt mix h1 ?_
        have h2 := h1.drew
        refine HJ.run ttok rfl [0, 1, 3, 4] rfl ?_
        obtain ⟨⟨p1, p2⟩, H⟩ := guard_t H
        refine HJ.q (i := 2) rfl rfl rfl rfl rfl rfl (q_byte ttok rfl rfl rfl rfl p1 p2) ?_
        obtain ⟨⟨p3, p4⟩, H⟩ := guard_t H
        refine HJ.q (i := 5) rfl rfl rfl rfl rfl rfl (q_byte ttok rfl rfl rfl rfl p3 p4) ?_
        refine HJ.run ttok rfl [6] rfl ?_
        refine HJ.fin [(0, .string ⟨⟨a0⟩⟩), (1, .string ⟨⟨a1⟩⟩), (5, .int .i64 x1), (24, .bool (decide ((gtb a0 x1) < (gtb a1 x1))))] rfl rfl ?_
        refine J.cond rfl (fun c3 => ?_) (fun c3 => ?_)
        · replace H := ite_t c3 H
          refine J.seq ?_
          refine J.region ?_
          refine RJ.run ttok 1 rfl ?_
          refine RJ.fin [(4, .int .i64 (-1))] rfl ?_
          refine J.ret ?_
          obtain rfl := Option.some.inj H
          exact ⟨_, _, _, (results_slots rfl), ⟨rfl, rfl⟩, h2.only [] rfl⟩
        · replace H := ite_f c3 H
          refine J.skip ?_
          refine J.seq ?_
          refine J.heldSt mix h2 ?_
          have h3 := h2.drew
          refine HJ.run ttok rfl [0, 1, 3, 4] rfl ?_
          refine HJ.q (i := 2) rfl rfl rfl rfl rfl rfl (q_byte ttok rfl rfl rfl rfl p1 p2) ?_
          refine HJ.q (i := 5) rfl rfl rfl rfl rfl rfl (q_byte ttok rfl rfl rfl rfl p3 p4) ?_
          refine HJ.run ttok rfl [6] rfl ?_
          refine HJ.fin [(0, .string ⟨⟨a0⟩⟩), (1, .string ⟨⟨a1⟩⟩), (5, .int .i64 x1), (31, .bool (decide ((gtb a1 x1) < (gtb a0 x1))))] rfl rfl ?_
          refine J.cond rfl (fun c4 => ?_) (fun c4 => ?_)
          · replace H := ite_t c4 H
            refine J.seq ?_
            refine J.region ?_
            refine RJ.run ttok 1 rfl ?_
            refine RJ.fin [(4, .int .i64 1)] rfl ?_
            refine J.ret ?_
            obtain rfl := Option.some.inj H
            exact ⟨_, _, _, (results_slots rfl), ⟨rfl, rfl⟩, h3.only [] rfl⟩
          · replace H := ite_f c4 H
            refine J.skip ?_
            refine J.region ?_
            refine RJ.run ttok 3 rfl ?_
            refine RJ.fin [(0, .string ⟨⟨a0⟩⟩), (1, .string ⟨⟨a1⟩⟩), (5, .int .i64 (w64 (x1 + 1)))] rfl ?_
            have h4 := ((h3.only [] rfl).rds [] rfl)
            exact ⟨k1, by omega, (w64 (x1 + 1)), rfl, h4, H⟩
      · replace H := ite_f c2 H
        refine J.exit ?_
        refine J.seq ?_
        refine J.seq ?_
        refine J.region ?_
        refine RJ.run ttok 5 rfl ?_
        refine RJ.fin [(0, .string ⟨⟨a0⟩⟩), (1, .string ⟨⟨a1⟩⟩), (36, .bool (decide ((a0.length : Int) < (a1.length : Int))))] rfl ?_
        refine J.cond rfl (fun c5 => ?_) (fun c5 => ?_)
        · replace H := ite_t c5 H
          refine J.seq ?_
          refine J.region ?_
          refine RJ.run ttok 1 rfl ?_
          refine RJ.fin [(4, .int .i64 (-1))] rfl ?_
          refine J.ret ?_
          obtain rfl := Option.some.inj H
          exact ⟨_, _, _, (results_slots rfl), ⟨rfl, rfl⟩, h1.only [] rfl⟩
        · replace H := ite_f c5 H
          refine J.skip ?_
          refine J.seq ?_
          refine J.seq ?_
          refine J.region ?_
          refine RJ.run ttok 5 rfl ?_
          refine RJ.fin [(41, .bool (decide ((a1.length : Int) < (a0.length : Int))))] rfl ?_
          refine J.cond rfl (fun c6 => ?_) (fun c6 => ?_)
          · replace H := ite_t c6 H
            refine J.seq ?_
            refine J.region ?_
            refine RJ.run ttok 1 rfl ?_
            refine RJ.fin [(4, .int .i64 1)] rfl ?_
            refine J.ret ?_
            obtain rfl := Option.some.inj H
            exact ⟨_, _, _, (results_slots rfl), ⟨rfl, rfl⟩, h1.only [] rfl⟩
          · replace H := ite_f c6 H
            refine J.skip ?_
            refine J.seq ?_
            refine J.region ?_
            refine RJ.run ttok 1 rfl ?_
            refine RJ.fin [(4, .int .i64 0)] rfl ?_
            refine J.ret ?_
            obtain rfl := Option.some.inj H
            exact ⟨_, _, _, (results_slots rfl), ⟨rfl, rfl⟩, h1.only [] rfl⟩
    · replace H := ite_f c1 H
      refine RJ.know (t := 10) rfl (congrArg Value.bool c1) ?_
      refine RJ.run ttok 5 rfl ?_
      refine RJ.fin [(0, .string ⟨⟨a0⟩⟩), (1, .string ⟨⟨a1⟩⟩), (5, .int .i64 x1), (15, .bool false)] rfl ?_
      refine J.condF rfl ?_
      refine J.exit ?_
      refine J.seq ?_
      refine J.seq ?_
      refine J.region ?_
      refine RJ.run ttok 5 rfl ?_
      refine RJ.fin [(0, .string ⟨⟨a0⟩⟩), (1, .string ⟨⟨a1⟩⟩), (36, .bool (decide ((a0.length : Int) < (a1.length : Int))))] rfl ?_
      refine J.cond rfl (fun c7 => ?_) (fun c7 => ?_)
      · replace H := ite_t c7 H
        refine J.seq ?_
        refine J.region ?_
        refine RJ.run ttok 1 rfl ?_
        refine RJ.fin [(4, .int .i64 (-1))] rfl ?_
        refine J.ret ?_
        obtain rfl := Option.some.inj H
        exact ⟨_, _, _, (results_slots rfl), ⟨rfl, rfl⟩, h1.only [] rfl⟩
      · replace H := ite_f c7 H
        refine J.skip ?_
        refine J.seq ?_
        refine J.seq ?_
        refine J.region ?_
        refine RJ.run ttok 5 rfl ?_
        refine RJ.fin [(41, .bool (decide ((a1.length : Int) < (a0.length : Int))))] rfl ?_
        refine J.cond rfl (fun c8 => ?_) (fun c8 => ?_)
        · replace H := ite_t c8 H
          refine J.seq ?_
          refine J.region ?_
          refine RJ.run ttok 1 rfl ?_
          refine RJ.fin [(4, .int .i64 1)] rfl ?_
          refine J.ret ?_
          obtain rfl := Option.some.inj H
          exact ⟨_, _, _, (results_slots rfl), ⟨rfl, rfl⟩, h1.only [] rfl⟩
        · replace H := ite_f c8 H
          refine J.skip ?_
          refine J.seq ?_
          refine J.region ?_
          refine RJ.run ttok 1 rfl ?_
          refine RJ.fin [(4, .int .i64 0)] rfl ?_
          refine J.ret ?_
          obtain rfl := Option.some.inj H
          exact ⟨_, _, _, (results_slots rfl), ⟨rfl, rfl⟩, h1.only [] rfl⟩

/-! sluicegate/sluicegateref11.Right -/
def sluicegateref11_Right.l0 : Nat → (List (List UInt8 × List UInt8)) → (Int) → Option (Bool)
  | 0, _, _ => none
  | k + 1, a0, x1 => if (decide (x1 < (a0.length : Int))) = true then (if 0 ≤ (w64 (x1 - 1)) ∧ (w64 (x1 - 1)) < (a0.length : Int) then (if 0 ≤ x1 ∧ x1 < (a0.length : Int) then ((sluicegateref01_Compare.f k ((gt a0 (w64 (x1 - 1))).1) ((gt a0 x1).1)).bind fun r1 => (if (decide (0 ≤ r1)) = true then (some false) else (sluicegateref11_Right.l0 k a0 (w64 (x1 + 1))))) else none) else none) else (some true)
def sluicegateref11_Right.f (k : Nat) (a0 : List (List UInt8 × List UInt8)) : Option (Bool) := sluicegateref11_Right.l0 k a0 1
set_option maxRecDepth 20000 in
set_option maxHeartbeats 4000000 in
theorem sluicegateref11_Right.spec {k : Nat} {a0 : List (List UInt8 × List UInt8)} {A1 : Option Addr} {c_1 : Nat} {r : Bool} (H : sluicegateref11_Right.f k a0 = some r) :
    Spec Try.prog 41 [.slice A1 a0.length c_1] [] [rdC 50 (.pair .str .str) a0 (.slice A1 a0.length c_1)] (fun v l => v = .bool r ∧ l = []) := by
  refine Spec.enter Try.func41 rfl (by kernel_rfl) (by kernel_rfl) fun w0 F0 h0 => ?_
  unfold sluicegateref11_Right.f at H
  refine J.seq ?_
  refine J.region ?_
  refine RJ.run ttok 1 rfl ?_
  refine RJ.fin [(0, .slice A1 a0.length c_1)] rfl ?_
  refine J.seq ?_
  refine J.seq ?_
  refine J.region ?_
  refine RJ.run ttok 1 rfl ?_
  refine RJ.fin [(0, .slice A1 a0.length c_1), (3, .int .i64 1)] rfl ?_
  refine J.block ?_
  have h5 := ((h0.only [] rfl).rds [0] rfl)
  refine J.loop (fun k env w => ∃ (x1 : Int), env = [(0, .slice A1 a0.length c_1), (3, .int .i64 x1)] ∧ St w0 F0 [] [rdC 50 (.pair .str .str) a0 (.slice A1 a0.length c_1)] w ∧ sluicegateref11_Right.l0 k a0 x1 = some r) (k := k) ⟨1, rfl, h5, H⟩ ?_
  rintro k1 env w1 ⟨x1, rfl, h1, H⟩
  cases k1 with
  | zero => exact nomatch (show none = some r from H)
  | succ k1 =>
    rw [sluicegateref11_Right.l0] at H
    refine J.seq ?_
    refine J.seq ?_
    refine J.region ?_
    refine RJ.run ttok 4 rfl ?_
    refine RJ.fin [(0, .slice A1 a0.length c_1), (3, .int .i64 x1), (7, .bool (decide (x1 < (a0.length : Int))))] rfl ?_
    refine J.cond rfl (fun c1 => ?_) (fun c1 => ?_)
    · replace H := ite_t c1 H
      refine J.skip ?_
      refine J.seq ?_
      refine J.block ?_
      refine J.seq ?_
      refine J.heldSt mix h1 ?_
      have h2 := h1.drew
      refine HJ.run ttok rfl [0, 1, 2, 6, 7] rfl ?_
      obtain ⟨⟨p1, p2⟩, H⟩ := guard_t H
      have e1 := elem_A h2.wh (Gives.self 0 rfl) p1 p2
      refine HJ.q (i := 3) rfl rfl rfl rfl rfl rfl (q_index ttok rfl rfl rfl rfl rfl e1 p1 p2) ?_
      refine HJ.run ttok rfl [4] rfl ?_
      refine HJ.q (i := 5) rfl rfl rfl rfl rfl rfl (q_load_elem (f := 0) ttok rfl (fun w e => e) (Gives.self 0 rfl) p1 p2 rfl rfl rfl rfl rfl) ?_
      obtain ⟨⟨p3, p4⟩, H⟩ := guard_t H
      refine HJ.q (i := 8) rfl rfl rfl rfl rfl rfl (q_index ttok rfl rfl rfl rfl rfl e1 p3 p4) ?_
      refine HJ.run ttok rfl [9] rfl ?_
      refine HJ.q (i := 10) rfl rfl rfl rfl rfl rfl (q_load_elem (f := 0) ttok rfl (fun w e => e) (Gives.self 0 rfl) p3 p4 rfl rfl rfl rfl rfl) ?_
      obtain ⟨r1, q1, H⟩ := bind_t H
      refine HJ.op (i := 11) rfl rfl rfl rfl rfl (op_call [] (sluicegateref01_Compare.spec q1) rfl rfl rfl h2 rfl gnil) ?_
      rintro _ w2 ⟨_, ⟨rfl, rfl⟩, h3⟩
      refine ⟨⟨[], h3⟩, ?_⟩
      refine HJ.run ttok rfl [12] rfl ?_
      refine HJ.fin [(0, .slice A1 a0.length c_1), (3, .int .i64 x1), (22, .bool (decide (0 ≤ r1)))] rfl rfl ?_
      refine J.cond rfl (fun c2 => ?_) (fun c2 => ?_)
      · replace H := ite_t c2 H
        refine J.seq ?_
        refine J.region ?_
        refine RJ.run ttok 1 rfl ?_
        refine RJ.fin [(2, .bool false)] rfl ?_
        refine J.ret ?_
        obtain rfl := Option.some.inj H
        exact ⟨_, _, _, (results_slots rfl), ⟨rfl, rfl⟩, h3.only [] rfl⟩
      · replace H := ite_f c2 H
        refine J.skip ?_
        refine J.region ?_
        refine RJ.run ttok 3 rfl ?_
        refine RJ.fin [(0, .slice A1 a0.length c_1), (3, .int .i64 (w64 (x1 + 1)))] rfl ?_
        have h4 := ((h3.only [] rfl).rds [0] rfl)
        exact ⟨k1, by omega, (w64 (x1 + 1)), rfl, h4, H⟩
    · replace H := ite_f c1 H
      refine J.exit ?_
      refine J.seq ?_
      refine J.region ?_
      refine RJ.run ttok 1 rfl ?_
      refine RJ.fin [(2, .bool true)] rfl ?_
      refine J.ret ?_
      obtain rfl := Option.some.inj H
      exact ⟨_, _, _, (results_slots rfl), ⟨rfl, rfl⟩, h1.only [] rfl⟩

/-! slices.Equal[[]sluicegate/api.Pair,sluicegate/api.Pair] -/
def slices_Equal_api_Pair_api_Pair.l0 : Nat → (List (List UInt8 × List UInt8)) → (List (List UInt8 × List UInt8)) → (Int) → Option (Bool)
  | 0, _, _, _ => none
  | k + 1, a0, a1, x1 => if (decide (x1 < (a0.length : Int))) = true then (if 0 ≤ x1 ∧ x1 < (a0.length : Int) then (if 0 ≤ x1 ∧ x1 < (a1.length : Int) then (if (!((decide (((gt a0 x1).1) = ((gt a1 x1).1))) && ((decide (((gt a0 x1).2) = ((gt a1 x1).2))) && true))) = true then (some false) else (slices_Equal_api_Pair_api_Pair.l0 k a0 a1 (w64 (x1 + 1)))) else none) else none) else (some true)
def slices_Equal_api_Pair_api_Pair.f (k : Nat) (a0 : List (List UInt8 × List UInt8)) (a1 : List (List UInt8 × List UInt8)) : Option (Bool) := if (!decide ((a0.length : Int) = (a1.length : Int))) = true then (some false) else (slices_Equal_api_Pair_api_Pair.l0 k a0 a1 0)
set_option maxRecDepth 20000 in
set_option maxHeartbeats 4000000 in
theorem slices_Equal_api_Pair_api_Pair.spec {k : Nat} {a0 : List (List UInt8 × List UInt8)} {a1 : List (List UInt8 × List UInt8)} {A1 : Option Addr} {c_1 : Nat} {A2 : Option Addr} {c_2 : Nat} {r : Bool} (H : slices_Equal_api_Pair_api_Pair.f k a0 a1 = some r) :
    Spec Try.prog 87 [.slice A1 a0.length c_1, .slice A2 a1.length c_2] [] [rdC 50 (.pair .str .str) a0 (.slice A1 a0.length c_1), rdC 50 (.pair .str .str) a1 (.slice A2 a1.length c_2)] (fun v l => v = .bool r ∧ l = []) := by
  refine Spec.enter Try.func87 rfl (by kernel_rfl) (by kernel_rfl) fun w0 F0 h0 => ?_
  unfold slices_Equal_api_Pair_api_Pair.f at H
  refine J.seq ?_
  refine J.region ?_
  refine RJ.run ttok 1 rfl ?_
  refine RJ.fin [(0, .slice A1 a0.length c_1), (1, .slice A2 a1.length c_2)] rfl ?_
  refine J.seq ?_
  refine J.seq ?_
  refine J.region ?_
  refine RJ.run ttok 5 rfl ?_
  refine RJ.fin [(0, .slice A1 a0.length c_1), (1, .slice A2 a1.length c_2), (10, .bool (!decide ((a0.length : Int) = (a1.length : Int))))] rfl ?_
  refine J.cond rfl (fun c1 => ?_) (fun c1 => ?_)
  · replace H := ite_t c1 H
    refine J.seq ?_
    refine J.region ?_
    refine RJ.run ttok 1 rfl ?_
    refine RJ.fin [(4, .bool false)] rfl ?_
    refine J.ret ?_
    obtain rfl := Option.some.inj H
    exact ⟨_, _, _, (results_slots rfl), ⟨rfl, rfl⟩, h0.only [] rfl⟩
  · replace H := ite_f c1 H
    refine J.skip ?_
    refine J.seq ?_
    refine J.seq ?_
    refine J.region ?_
    refine RJ.run ttok 3 rfl ?_
    refine RJ.fin [(0, .slice A1 a0.length c_1), (1, .slice A2 a1.length c_2), (12, .int .i64 (a0.length : Int)), (13, .int .i64 0)] rfl ?_
    refine J.block ?_
    have h4 := ((h0.only [] rfl).rds [0, 1] rfl)
    refine J.loop (fun k env w => ∃ (x1 : Int), env = [(0, .slice A1 a0.length c_1), (1, .slice A2 a1.length c_2), (12, .int .i64 (a0.length : Int)), (13, .int .i64 x1)] ∧ St w0 F0 [] [rdC 50 (.pair .str .str) a0 (.slice A1 a0.length c_1), rdC 50 (.pair .str .str) a1 (.slice A2 a1.length c_2)] w ∧ slices_Equal_api_Pair_api_Pair.l0 k a0 a1 x1 = some r) (k := k) ⟨0, rfl, h4, H⟩ ?_
    rintro k1 env w1 ⟨x1, rfl, h1, H⟩
    cases k1 with
    | zero => exact nomatch (show none = some r from H)
    | succ k1 =>
      rw [slices_Equal_api_Pair_api_Pair.l0] at H
      refine J.seq ?_
      refine J.region ?_
      refine RJ.run ttok 1 rfl ?_
      refine RJ.fin [(0, .slice A1 a0.length c_1), (1, .slice A2 a1.length c_2), (12, .int .i64 (a0.length : Int)), (13, .int .i64 x1), (14, .bool (decide (x1 < (a0.length : Int))))] rfl ?_
      refine J.seq ?_
      refine J.cond rfl (fun c2 => ?_) (fun c2 => ?_)
      · replace H := ite_t c2 H
        refine J.skip ?_
        refine J.seq ?_
        refine J.block ?_
        refine J.seq ?_
        refine J.region ?_
        refine RJ.run ttok 2 rfl ?_
        refine RJ.fin [(0, .slice A1 a0.length c_1), (1, .slice A2 a1.length c_2), (5, .int .i64 x1), (12, .int .i64 (a0.length : Int)), (13, .int .i64 x1)] rfl ?_
        refine J.seq ?_
        refine J.heldSt mix h1 ?_
        have h2 := h1.drew
        refine HJ.run ttok rfl [0, 1, 4, 5] rfl ?_
        obtain ⟨⟨p1, p2⟩, H⟩ := guard_t H
        have e1 := elem_A h2.wh (Gives.self 0 rfl) p1 p2
        refine HJ.q (i := 2) rfl rfl rfl rfl rfl rfl (q_index ttok rfl rfl rfl rfl rfl e1 p1 p2) ?_
        refine HJ.q (i := 3) rfl rfl rfl rfl rfl rfl (q_load_elem (f := 0) ttok rfl (fun w e => e) (Gives.self 0 rfl) p1 p2 rfl rfl rfl rfl rfl) ?_
        obtain ⟨⟨p3, p4⟩, H⟩ := guard_t H
        have e2 := elem_A h2.wh (Gives.self 1 rfl) p3 p4
        refine HJ.q (i := 6) rfl rfl rfl rfl rfl rfl (q_index ttok rfl rfl rfl rfl rfl e2 p3 p4) ?_
        refine HJ.q (i := 7) rfl rfl rfl rfl rfl rfl (q_load_elem (f := 0) ttok rfl (fun w e => e) (Gives.self 1 rfl) p3 p4 rfl rfl rfl rfl rfl) ?_
        refine HJ.run ttok rfl [8] rfl ?_
        refine HJ.fin [(0, .slice A1 a0.length c_1), (1, .slice A2 a1.length c_2), (12, .int .i64 (a0.length : Int)), (13, .int .i64 x1), (24, .bool (!((decide (((gt a0 x1).1) = ((gt a1 x1).1))) && ((decide (((gt a0 x1).2) = ((gt a1 x1).2))) && true))))] rfl rfl ?_
        refine J.cond rfl (fun c3 => ?_) (fun c3 => ?_)
        · replace H := ite_t c3 H
          refine J.seq ?_
          refine J.region ?_
          refine RJ.run ttok 1 rfl ?_
          refine RJ.fin [(4, .bool false)] rfl ?_
          refine J.ret ?_
          obtain rfl := Option.some.inj H
          exact ⟨_, _, _, (results_slots rfl), ⟨rfl, rfl⟩, h2.only [] rfl⟩
        · replace H := ite_f c3 H
          refine J.skip ?_
          refine J.region ?_
          refine RJ.run ttok 2 rfl ?_
          refine RJ.fin [(0, .slice A1 a0.length c_1), (1, .slice A2 a1.length c_2), (12, .int .i64 (a0.length : Int)), (13, .int .i64 (w64 (x1 + 1)))] rfl ?_
          have h3 := ((h2.only [] rfl).rds [0, 1] rfl)
          exact ⟨k1, by omega, (w64 (x1 + 1)), rfl, h3, H⟩
      · replace H := ite_f c2 H
        refine J.exit ?_
        refine J.seq ?_
        refine J.region ?_
        refine RJ.run ttok 1 rfl ?_
        refine RJ.fin [(4, .bool true)] rfl ?_
        refine J.ret ?_
        obtain rfl := Option.some.inj H
        exact ⟨_, _, _, (results_slots rfl), ⟨rfl, rfl⟩, h1.only [] rfl⟩

/-! sluicegate/leaf.Same -/
def leaf_Same.f (k : Nat) (a0 : List (List UInt8 × List UInt8)) (a1 : List (List UInt8 × List UInt8)) : Option (Bool) := (slices_Equal_api_Pair_api_Pair.f k a0 a1).bind fun r1 => (some r1)
set_option maxRecDepth 20000 in
set_option maxHeartbeats 4000000 in
theorem leaf_Same.spec {k : Nat} {a0 : List (List UInt8 × List UInt8)} {a1 : List (List UInt8 × List UInt8)} {A1 : Option Addr} {c_1 : Nat} {A2 : Option Addr} {c_2 : Nat} {r : Bool} (H : leaf_Same.f k a0 a1 = some r) :
    Spec Try.prog 54 [.slice A1 a0.length c_1, .slice A2 a1.length c_2] [] [rdC 50 (.pair .str .str) a0 (.slice A1 a0.length c_1), rdC 50 (.pair .str .str) a1 (.slice A2 a1.length c_2)] (fun v l => v = .bool r ∧ l = []) := by
  refine Spec.enter Try.func54 rfl (by kernel_rfl) (by kernel_rfl) fun w0 F0 h0 => ?_
  unfold leaf_Same.f at H
  refine J.seq ?_
  refine J.region ?_
  refine RJ.run ttok 1 rfl ?_
  refine RJ.fin [(0, .slice A1 a0.length c_1), (1, .slice A2 a1.length c_2)] rfl ?_
  refine J.seq ?_
  refine J.region ?_
  refine RJ.run ttok 2 rfl ?_
  obtain ⟨r1, q1, H⟩ := bind_t H
  refine RJ.op rfl rfl (op_call [] (slices_Equal_api_Pair_api_Pair.spec q1) rfl rfl rfl h0 rfl (gcons (Gives.self 0 rfl) (gcons (Gives.self 1 rfl) gnil))) ?_
  rintro _ w1 ⟨_, ⟨rfl, rfl⟩, h1⟩
  refine RJ.run ttok 1 rfl ?_
  refine RJ.fin [(4, .bool r1)] rfl ?_
  refine J.ret ?_
  obtain rfl := Option.some.inj H
  exact ⟨_, _, _, (results_slots rfl), ⟨rfl, rfl⟩, h1.only [] rfl⟩

/-! sluicegate/leaf.Get -/
def leaf_Get.f (k : Nat) (a0 : List (List UInt8 × List UInt8)) (a1 : List UInt8) : Option (List UInt8 × Bool) := (slices_BinarySearchFunc_api_Pair_api_Pair_string_leaf_compare.f k a0 a1).bind fun r1 => (if (!r1.2) = true then (some (([] : List UInt8), false)) else (if 0 ≤ r1.1 ∧ r1.1 < (a0.length : Int) then (some ((gt a0 r1.1).2, true)) else none))
set_option maxRecDepth 20000 in
set_option maxHeartbeats 4000000 in
theorem leaf_Get.spec {k : Nat} {a0 : List (List UInt8 × List UInt8)} {a1 : List UInt8} {A1 : Option Addr} {c_1 : Nat} {r : List UInt8 × Bool} (H : leaf_Get.f k a0 a1 = some r) :
    Spec Try.prog 47 [.slice A1 a0.length c_1, .string ⟨⟨a1⟩⟩] [] [rdC 50 (.pair .str .str) a0 (.slice A1 a0.length c_1)] (fun v l => v = .tuple #[.string ⟨⟨r.1⟩⟩, .bool r.2] ∧ l = []) := by
  refine Spec.enter Try.func47 rfl (by kernel_rfl) (by kernel_rfl) fun w0 F0 h0 => ?_
  unfold leaf_Get.f at H
  refine J.seq ?_
  refine J.region ?_
  refine RJ.run ttok 2 rfl ?_
  refine RJ.fin [(0, .slice A1 a0.length c_1), (1, .string ⟨⟨a1⟩⟩)] rfl ?_
  refine J.seq ?_
  refine J.region ?_
  refine RJ.run ttok 2 rfl ?_
  obtain ⟨r1, q1, H⟩ := bind_t H
  refine RJ.op rfl rfl (op_call [] (slices_BinarySearchFunc_api_Pair_api_Pair_string_leaf_compare.spec q1) rfl rfl rfl h0 rfl (gcons (Gives.self 0 rfl) gnil)) ?_
  rintro _ w1 ⟨_, ⟨rfl, rfl⟩, h1⟩
  refine RJ.run ttok 5 rfl ?_
  refine RJ.fin [(0, .slice A1 a0.length c_1), (6, .int .i64 r1.1), (7, .bool r1.2)] rfl ?_
  refine J.seq ?_
  refine J.seq ?_
  refine J.region ?_
  refine RJ.run ttok 2 rfl ?_
  refine RJ.fin [(0, .slice A1 a0.length c_1), (6, .int .i64 r1.1), (15, .bool (!r1.2))] rfl ?_
  refine J.cond rfl (fun c1 => ?_) (fun c1 => ?_)
  · replace H := ite_t c1 H
    refine J.seq ?_
    refine J.region ?_
    refine RJ.run ttok 2 rfl ?_
    refine RJ.fin [(4, .string ⟨⟨([] : List UInt8)⟩⟩), (5, .bool false)] rfl ?_
    refine J.ret ?_
    obtain rfl := Option.some.inj H
    exact ⟨_, _, _, (results_slots rfl), ⟨rfl, rfl⟩, h1.only [] rfl⟩
  · replace H := ite_f c1 H
    refine J.skip ?_
    refine J.seq ?_
    refine J.region ?_
    refine RJ.run ttok 2 rfl ?_
    obtain ⟨⟨p1, p2⟩, H⟩ := guard_t H
    have e1 := elem_A h1.wh (Gives.self 0 rfl) p1 p2
    refine RJ.q rfl rfl (q_index ttok rfl rfl rfl rfl rfl e1 p1 p2) ?_
    refine RJ.run ttok 1 rfl ?_
    refine RJ.q rfl rfl (q_load_elem (f := 1) ttok rfl (fun w e => e ▸ h1.wh) (Gives.self 0 rfl) p1 p2 rfl rfl rfl rfl rfl) ?_
    refine RJ.run ttok 2 rfl ?_
    refine RJ.fin [(4, .string ⟨⟨(gt a0 r1.1).2⟩⟩), (5, .bool true)] rfl ?_
    refine J.ret ?_
    obtain rfl := Option.some.inj H
    exact ⟨_, _, _, (results_slots rfl), ⟨rfl, rfl⟩, h1.only [] rfl⟩

/-! sluicegate/sluicegateref11.Get -/
def sluicegateref11_Get.l0 : Nat → (List (List UInt8 × List UInt8)) → (List UInt8) → (Int) → Option (List UInt8 × Bool)
  | 0, _, _, _ => none
  | k + 1, a0, a1, x1 => if (decide (x1 < (a0.length : Int))) = true then (if 0 ≤ x1 ∧ x1 < (a0.length : Int) then (if (decide (((gt a0 x1).1) = a1)) = true then (some ((gt a0 x1).2, true)) else (sluicegateref11_Get.l0 k a0 a1 (w64 (x1 + 1)))) else none) else (some (([] : List UInt8), false))
def sluicegateref11_Get.f (k : Nat) (a0 : List (List UInt8 × List UInt8)) (a1 : List UInt8) : Option (List UInt8 × Bool) := sluicegateref11_Get.l0 k a0 a1 0
set_option maxRecDepth 20000 in
set_option maxHeartbeats 4000000 in
theorem sluicegateref11_Get.spec {k : Nat} {a0 : List (List UInt8 × List UInt8)} {a1 : List UInt8} {A1 : Option Addr} {c_1 : Nat} {r : List UInt8 × Bool} (H : sluicegateref11_Get.f k a0 a1 = some r) :
    Spec Try.prog 46 [.slice A1 a0.length c_1, .string ⟨⟨a1⟩⟩] [] [rdC 50 (.pair .str .str) a0 (.slice A1 a0.length c_1)] (fun v l => v = .tuple #[.string ⟨⟨r.1⟩⟩, .bool r.2] ∧ l = []) := by
  refine Spec.enter Try.func46 rfl (by kernel_rfl) (by kernel_rfl) fun w0 F0 h0 => ?_
  unfold sluicegateref11_Get.f at H
  refine J.seq ?_
  refine J.region ?_
  refine RJ.run ttok 2 rfl ?_
  refine RJ.fin [(0, .slice A1 a0.length c_1), (1, .string ⟨⟨a1⟩⟩)] rfl ?_
  refine J.seq ?_
  refine J.seq ?_
  refine J.region ?_
  refine RJ.run ttok 1 rfl ?_
  refine RJ.fin [(0, .slice A1 a0.length c_1), (1, .string ⟨⟨a1⟩⟩), (6, .int .i64 0)] rfl ?_
  refine J.block ?_
  have h3 := ((h0.only [] rfl).rds [0] rfl)
  refine J.loop (fun k env w => ∃ (x1 : Int), env = [(0, .slice A1 a0.length c_1), (1, .string ⟨⟨a1⟩⟩), (6, .int .i64 x1)] ∧ St w0 F0 [] [rdC 50 (.pair .str .str) a0 (.slice A1 a0.length c_1)] w ∧ sluicegateref11_Get.l0 k a0 a1 x1 = some r) (k := k) ⟨0, rfl, h3, H⟩ ?_
  rintro k1 env w1 ⟨x1, rfl, h1, H⟩
  cases k1 with
  | zero => exact nomatch (show none = some r from H)
  | succ k1 =>
    rw [sluicegateref11_Get.l0] at H
    refine J.seq ?_
    refine J.seq ?_
    refine J.region ?_
    refine RJ.run ttok 4 rfl ?_
    refine RJ.fin [(0, .slice A1 a0.length c_1), (1, .string ⟨⟨a1⟩⟩), (6, .int .i64 x1), (10, .bool (decide (x1 < (a0.length : Int))))] rfl ?_
    refine J.cond rfl (fun c1 => ?_) (fun c1 => ?_)
    · replace H := ite_t c1 H
      refine J.skip ?_
      refine J.seq ?_
      refine J.block ?_
      refine J.seq ?_
      refine J.region ?_
      refine RJ.run ttok 2 rfl ?_
      obtain ⟨⟨p1, p2⟩, H⟩ := guard_t H
      have e1 := elem_A h1.wh (Gives.self 0 rfl) p1 p2
      refine RJ.q rfl rfl (q_index ttok rfl rfl rfl rfl rfl e1 p1 p2) ?_
      refine RJ.run ttok 1 rfl ?_
      refine RJ.q rfl rfl (q_load_elem (f := 0) ttok rfl (fun w e => e ▸ h1.wh) (Gives.self 0 rfl) p1 p2 rfl rfl rfl rfl rfl) ?_
      refine RJ.run ttok 2 rfl ?_
      refine RJ.fin [(0, .slice A1 a0.length c_1), (1, .string ⟨⟨a1⟩⟩), (6, .int .i64 x1), (19, .bool (decide (((gt a0 x1).1) = a1)))] rfl ?_
      refine J.cond rfl (fun c2 => ?_) (fun c2 => ?_)
      · replace H := ite_t c2 H
        refine J.seq ?_
        refine J.region ?_
        refine RJ.run ttok 2 rfl ?_
        refine RJ.q rfl rfl (q_index ttok rfl rfl rfl rfl rfl e1 p1 p2) ?_
        refine RJ.run ttok 1 rfl ?_
        refine RJ.q rfl rfl (q_load_elem (f := 1) ttok rfl (fun w e => e ▸ h1.wh) (Gives.self 0 rfl) p1 p2 rfl rfl rfl rfl rfl) ?_
        refine RJ.run ttok 2 rfl ?_
        refine RJ.fin [(4, .string ⟨⟨(gt a0 x1).2⟩⟩), (5, .bool true)] rfl ?_
        refine J.ret ?_
        obtain rfl := Option.some.inj H
        exact ⟨_, _, _, (results_slots rfl), ⟨rfl, rfl⟩, h1.only [] rfl⟩
      · replace H := ite_f c2 H
        refine J.skip ?_
        refine J.region ?_
        refine RJ.run ttok 3 rfl ?_
        refine RJ.fin [(0, .slice A1 a0.length c_1), (1, .string ⟨⟨a1⟩⟩), (6, .int .i64 (w64 (x1 + 1)))] rfl ?_
        have h2 := ((h1.only [] rfl).rds [0] rfl)
        exact ⟨k1, by omega, (w64 (x1 + 1)), rfl, h2, H⟩
    · replace H := ite_f c1 H
      refine J.exit ?_
      refine J.seq ?_
      refine J.region ?_
      refine RJ.run ttok 2 rfl ?_
      refine RJ.fin [(4, .string ⟨⟨([] : List UInt8)⟩⟩), (5, .bool false)] rfl ?_
      refine J.ret ?_
      obtain rfl := Option.some.inj H
      exact ⟨_, _, _, (results_slots rfl), ⟨rfl, rfl⟩, h1.only [] rfl⟩

/-! sluicegate/sluicegatelaw11.LeafRights -/
def sluicegatelaw11_LeafRights.f (k : Nat) (a0 : List (List UInt8 × List UInt8)) (a1 : List (List UInt8 × List UInt8)) (a2 : List UInt8) : Option (Bool) := (sluicegatelaw11_great.f k a0 ([] : List (List UInt8 × Bool × List UInt8))).bind fun r1 => (if r1 = true then ((sluicegatelaw11_awake.f k).bind fun r2 => (some r2)) else ((sluicegatelaw11_great.f k a1 ([] : List (List UInt8 × Bool × List UInt8))).bind fun r3 => (if r3 = true then ((sluicegatelaw11_awake.f k).bind fun r4 => (some r4)) else (if (decide (300 < (a2.length : Int))) = true then ((sluicegatelaw11_awake.f k).bind fun r5 => (some r5)) else ((leaf_Right.f k a0).bind fun r6 => ((sluicegateref11_Right.f k a0).bind fun r7 => (if (!(r6 == r7)) = true then (some false) else ((leaf_Same.f k a0 a1).bind fun r8 => ((sluicegateref11_Same.f k a0 a1).bind fun r9 => (if (!(r8 == r9)) = true then (some false) else ((leaf_Same.f k a0 a0).bind fun r10 => (if (!r10) = true then (some false) else ((sluicegateref11_Right.f k a0).bind fun r11 => (if (!r11) = true then ((sluicegatelaw11_awake.f k).bind fun r12 => (some r12)) else ((leaf_Get.f k a0 a2).bind fun r13 => ((sluicegateref11_Get.f k a0 a2).bind fun r14 => (if (decide (r13.1 = r14.1)) = true then (if (r13.2 == r14.2) = true then ((sluicegatelaw11_awake.f k).bind fun r15 => (some r15)) else (some false)) else (some false))))))))))))))))))
set_option maxRecDepth 20000 in
set_option maxHeartbeats 4000000 in
theorem sluicegatelaw11_LeafRights.spec {k : Nat} {a0 : List (List UInt8 × List UInt8)} {a1 : List (List UInt8 × List UInt8)} {a2 : List UInt8} {A1 : Option Addr} {c_1 : Nat} {A2 : Option Addr} {c_2 : Nat} {r : Bool} (H : sluicegatelaw11_LeafRights.f k a0 a1 a2 = some r) :
    Spec Try.prog 13 [.slice A1 a0.length c_1, .slice A2 a1.length c_2, .string ⟨⟨a2⟩⟩] [] [rdC 50 (.pair .str .str) a0 (.slice A1 a0.length c_1), rdC 50 (.pair .str .str) a1 (.slice A2 a1.length c_2)] (fun v l => v = .bool r ∧ l = []) := by
  refine Spec.enter Try.func13 rfl (by kernel_rfl) (by kernel_rfl) fun w0 F0 h0 => ?_
  unfold sluicegatelaw11_LeafRights.f at H
  refine J.seq ?_
  refine J.region ?_
  refine RJ.run ttok 1 rfl ?_
  refine RJ.fin [(0, .slice A1 a0.length c_1), (1, .slice A2 a1.length c_2), (2, .string ⟨⟨a2⟩⟩)] rfl ?_
  refine J.seq ?_
  refine J.seq ?_
  refine J.region ?_
  refine RJ.run ttok 1 rfl ?_
  have h1 := h0.addNil 48 (.pair .str (.pair .bool .str))
  obtain ⟨r1, q1, H⟩ := bind_t H
  refine RJ.op rfl rfl (op_call [] (sluicegatelaw11_great.spec q1) rfl rfl rfl h1 rfl (gcons (Gives.self 1 rfl) (gcons (Gives.of 0 rfl own_rd) gnil))) ?_
  rintro _ w1 ⟨_, ⟨rfl, rfl⟩, h2⟩
  refine RJ.run ttok 1 rfl ?_
  rcases Bool.eq_false_or_eq_true r1 with c1 | c1
  · replace H := ite_t c1 H
    refine RJ.know (t := 13) rfl (congrArg Value.bool c1) ?_
    refine RJ.run ttok 8 rfl ?_
    refine RJ.fin [(0, .slice A1 a0.length c_1), (1, .slice A2 a1.length c_2), (2, .string ⟨⟨a2⟩⟩), (21, .bool true)] rfl ?_
    refine J.condT rfl ?_
    refine J.seq ?_
    refine J.region ?_
    obtain ⟨r2, q2, H⟩ := bind_t H
    refine RJ.op rfl rfl (op_call [] (sluicegatelaw11_awake.spec q2) rfl rfl rfl h2 rfl gnil) ?_
    rintro _ w2 ⟨_, ⟨rfl, rfl⟩, h3⟩
    refine RJ.run ttok 1 rfl ?_
    refine RJ.fin [(6, .bool r2)] rfl ?_
    refine J.ret ?_
    obtain rfl := Option.some.inj H
    exact ⟨_, _, _, (results_slots rfl), ⟨rfl, rfl⟩, h3.only [] rfl⟩
  · replace H := ite_f c1 H
    refine RJ.know (t := 13) rfl (congrArg Value.bool c1) ?_
    refine RJ.run ttok 1 rfl ?_
    obtain ⟨r3, q3, H⟩ := bind_t H
    refine RJ.op rfl rfl (op_call [] (sluicegatelaw11_great.spec q3) rfl rfl rfl h2 rfl (gcons (Gives.self 2 rfl) (gcons (Gives.of 0 rfl own_rd) gnil))) ?_
    rintro _ w3 ⟨_, ⟨rfl, rfl⟩, h4⟩
    refine RJ.run ttok 2 rfl ?_
    rcases Bool.eq_false_or_eq_true r3 with c2 | c2
    · replace H := ite_t c2 H
      refine RJ.know (t := 17) rfl (congrArg Value.bool c2) ?_
      refine RJ.run ttok 4 rfl ?_
      refine RJ.fin [(0, .slice A1 a0.length c_1), (1, .slice A2 a1.length c_2), (2, .string ⟨⟨a2⟩⟩), (21, .bool true)] rfl ?_
      refine J.condT rfl ?_
      refine J.seq ?_
      refine J.region ?_
      obtain ⟨r4, q4, H⟩ := bind_t H
      refine RJ.op rfl rfl (op_call [] (sluicegatelaw11_awake.spec q4) rfl rfl rfl h4 rfl gnil) ?_
      rintro _ w4 ⟨_, ⟨rfl, rfl⟩, h5⟩
      refine RJ.run ttok 1 rfl ?_
      refine RJ.fin [(6, .bool r4)] rfl ?_
      refine J.ret ?_
      obtain rfl := Option.some.inj H
      exact ⟨_, _, _, (results_slots rfl), ⟨rfl, rfl⟩, h5.only [] rfl⟩
    · replace H := ite_f c2 H
      refine RJ.know (t := 17) rfl (congrArg Value.bool c2) ?_
      refine RJ.run ttok 4 rfl ?_
      refine RJ.fin [(0, .slice A1 a0.length c_1), (1, .slice A2 a1.length c_2), (2, .string ⟨⟨a2⟩⟩), (21, .bool (decide (300 < (a2.length : Int))))] rfl ?_
      refine J.cond rfl (fun c3 => ?_) (fun c3 => ?_)
      · replace H := ite_t c3 H
        refine J.seq ?_
        refine J.region ?_
        obtain ⟨r5, q5, H⟩ := bind_t H
        refine RJ.op rfl rfl (op_call [] (sluicegatelaw11_awake.spec q5) rfl rfl rfl h4 rfl gnil) ?_
        rintro _ w5 ⟨_, ⟨rfl, rfl⟩, h6⟩
        refine RJ.run ttok 1 rfl ?_
        refine RJ.fin [(6, .bool r5)] rfl ?_
        refine J.ret ?_
        obtain rfl := Option.some.inj H
        exact ⟨_, _, _, (results_slots rfl), ⟨rfl, rfl⟩, h6.only [] rfl⟩
      · replace H := ite_f c3 H
        refine J.skip ?_
        refine J.seq ?_
        refine J.seq ?_
        refine J.region ?_
        refine RJ.run ttok 1 rfl ?_
        obtain ⟨r6, q6, H⟩ := bind_t H
        refine RJ.op rfl rfl (op_call [] (leaf_Right.spec q6) rfl rfl rfl h4 rfl (gcons (Gives.self 1 rfl) gnil)) ?_
        rintro _ w6 ⟨_, ⟨rfl, rfl⟩, h7⟩
        refine RJ.run ttok 1 rfl ?_
        obtain ⟨r7, q7, H⟩ := bind_t H
        refine RJ.op rfl rfl (op_call [] (sluicegateref11_Right.spec q7) rfl rfl rfl h7 rfl (gcons (Gives.self 1 rfl) gnil)) ?_
        rintro _ w7 ⟨_, ⟨rfl, rfl⟩, h8⟩
        refine RJ.run ttok 2 rfl ?_
        rcases Bool.eq_false_or_eq_true (!(r6 == r7)) with c4 | c4
        · replace H := ite_t c4 H
          refine RJ.know (t := 28) rfl (congrArg Value.bool c4) ?_
          refine RJ.run ttok 14 rfl ?_
          refine RJ.fin [(0, .slice A1 a0.length c_1), (2, .string ⟨⟨a2⟩⟩), (42, .bool true)] rfl ?_
          refine J.condT rfl ?_
          refine J.seq ?_
          refine J.region ?_
          refine RJ.run ttok 1 rfl ?_
          refine RJ.fin [(6, .bool false)] rfl ?_
          refine J.ret ?_
          obtain rfl := Option.some.inj H
          exact ⟨_, _, _, (results_slots rfl), ⟨rfl, rfl⟩, h8.only [] rfl⟩
        · replace H := ite_f c4 H
          refine RJ.know (t := 28) rfl (congrArg Value.bool c4) ?_
          refine RJ.run ttok 2 rfl ?_
          obtain ⟨r8, q8, H⟩ := bind_t H
          refine RJ.op rfl rfl (op_call [] (leaf_Same.spec q8) rfl rfl rfl h8 rfl (gcons (Gives.self 1 rfl) (gcons (Gives.self 2 rfl) gnil))) ?_
          rintro _ w8 ⟨_, ⟨rfl, rfl⟩, h9⟩
          refine RJ.run ttok 2 rfl ?_
          obtain ⟨r9, q9, H⟩ := bind_t H
          refine RJ.op rfl rfl (op_call [] (sluicegateref11_Same.spec q9) rfl rfl rfl h9 rfl (gcons (Gives.self 1 rfl) (gcons (Gives.self 2 rfl) gnil))) ?_
          rintro _ w9 ⟨_, ⟨rfl, rfl⟩, h10⟩
          refine RJ.run ttok 3 rfl ?_
          rcases Bool.eq_false_or_eq_true (!(r8 == r9)) with c5 | c5
          · replace H := ite_t c5 H
            refine RJ.know (t := 37) rfl (congrArg Value.bool c5) ?_
            refine RJ.run ttok 5 rfl ?_
            refine RJ.fin [(0, .slice A1 a0.length c_1), (2, .string ⟨⟨a2⟩⟩), (42, .bool true)] rfl ?_
            refine J.condT rfl ?_
            refine J.seq ?_
            refine J.region ?_
            refine RJ.run ttok 1 rfl ?_
            refine RJ.fin [(6, .bool false)] rfl ?_
            refine J.ret ?_
            obtain rfl := Option.some.inj H
            exact ⟨_, _, _, (results_slots rfl), ⟨rfl, rfl⟩, h10.only [] rfl⟩
          · replace H := ite_f c5 H
            refine RJ.know (t := 37) rfl (congrArg Value.bool c5) ?_
            refine RJ.run ttok 2 rfl ?_
            obtain ⟨r10, q10, H⟩ := bind_t H
            refine RJ.op rfl rfl (op_call [] (leaf_Same.spec q10) rfl rfl rfl h10 rfl (gcons (Gives.self 1 rfl) (gcons (Gives.self 1 rfl) gnil))) ?_
            rintro _ w10 ⟨_, ⟨rfl, rfl⟩, h11⟩
            refine RJ.run ttok 2 rfl ?_
            refine RJ.fin [(0, .slice A1 a0.length c_1), (2, .string ⟨⟨a2⟩⟩), (42, .bool (!r10))] rfl ?_
            refine J.cond rfl (fun c6 => ?_) (fun c6 => ?_)
            · replace H := ite_t c6 H
              refine J.seq ?_
              refine J.region ?_
              refine RJ.run ttok 1 rfl ?_
              refine RJ.fin [(6, .bool false)] rfl ?_
              refine J.ret ?_
              obtain rfl := Option.some.inj H
              exact ⟨_, _, _, (results_slots rfl), ⟨rfl, rfl⟩, h11.only [] rfl⟩
            · replace H := ite_f c6 H
              refine J.skip ?_
              refine J.seq ?_
              refine J.seq ?_
              refine J.region ?_
              refine RJ.run ttok 1 rfl ?_
              obtain ⟨r11, q11, H⟩ := bind_t H
              refine RJ.op rfl rfl (op_call [] (sluicegateref11_Right.spec q11) rfl rfl rfl h11 rfl (gcons (Gives.self 1 rfl) gnil)) ?_
              rintro _ w11 ⟨_, ⟨rfl, rfl⟩, h12⟩
              refine RJ.run ttok 1 rfl ?_
              refine RJ.fin [(0, .slice A1 a0.length c_1), (2, .string ⟨⟨a2⟩⟩), (45, .bool (!r11))] rfl ?_
              refine J.cond rfl (fun c7 => ?_) (fun c7 => ?_)
              · replace H := ite_t c7 H
                refine J.seq ?_
                refine J.region ?_
                obtain ⟨r12, q12, H⟩ := bind_t H
                refine RJ.op rfl rfl (op_call [] (sluicegatelaw11_awake.spec q12) rfl rfl rfl h12 rfl gnil) ?_
                rintro _ w12 ⟨_, ⟨rfl, rfl⟩, h13⟩
                refine RJ.run ttok 1 rfl ?_
                refine RJ.fin [(6, .bool r12)] rfl ?_
                refine J.ret ?_
                obtain rfl := Option.some.inj H
                exact ⟨_, _, _, (results_slots rfl), ⟨rfl, rfl⟩, h13.only [] rfl⟩
              · replace H := ite_f c7 H
                refine J.skip ?_
                refine J.seq ?_
                refine J.region ?_
                refine RJ.run ttok 2 rfl ?_
                obtain ⟨r13, q13, H⟩ := bind_t H
                refine RJ.op rfl rfl (op_call [] (leaf_Get.spec q13) rfl rfl rfl h12 rfl (gcons (Gives.self 1 rfl) gnil)) ?_
                rintro _ w13 ⟨_, ⟨rfl, rfl⟩, h14⟩
                refine RJ.run ttok 5 rfl ?_
                refine RJ.fin [(0, .slice A1 a0.length c_1), (2, .string ⟨⟨a2⟩⟩), (7, .string ⟨⟨r13.1⟩⟩), (8, .bool r13.2)] rfl ?_
                refine J.seq ?_
                refine J.region ?_
                refine RJ.run ttok 2 rfl ?_
                obtain ⟨r14, q14, H⟩ := bind_t H
                refine RJ.op rfl rfl (op_call [] (sluicegateref11_Get.spec q14) rfl rfl rfl h14 rfl (gcons (Gives.self 1 rfl) gnil)) ?_
                rintro _ w14 ⟨_, ⟨rfl, rfl⟩, h15⟩
                refine RJ.run ttok 5 rfl ?_
                refine RJ.fin [(7, .string ⟨⟨r13.1⟩⟩), (8, .bool r13.2), (9, .string ⟨⟨r14.1⟩⟩), (10, .bool r14.2)] rfl ?_
                refine J.seq ?_
                refine J.region ?_
                refine RJ.run ttok 4 rfl ?_
                rcases Bool.eq_false_or_eq_true (decide (r13.1 = r14.1)) with c8 | c8
                · replace H := ite_t c8 H
                  refine RJ.know (t := 62) rfl (congrArg Value.bool c8) ?_
                  refine RJ.run ttok 5 rfl ?_
                  rcases Bool.eq_false_or_eq_true (r13.2 == r14.2) with c9 | c9
                  · replace H := ite_t c9 H
                    refine RJ.know (t := 67) rfl (congrArg Value.bool c9) ?_
                    obtain ⟨r15, q15, H⟩ := bind_t H
                    refine RJ.op rfl rfl (op_call [] (sluicegatelaw11_awake.spec q15) rfl rfl rfl h15 rfl gnil) ?_
                    rintro _ w15 ⟨_, ⟨rfl, rfl⟩, h16⟩
                    refine RJ.run ttok 2 rfl ?_
                    refine RJ.fin [(6, .bool r15)] rfl ?_
                    refine J.ret ?_
                    obtain rfl := Option.some.inj H
                    exact ⟨_, _, _, (results_slots rfl), ⟨rfl, rfl⟩, h16.only [] rfl⟩
                  · replace H := ite_f c9 H
                    refine RJ.know (t := 67) rfl (congrArg Value.bool c9) ?_
                    refine RJ.run ttok 3 rfl ?_
                    refine RJ.fin [(6, .bool false)] rfl ?_
                    refine J.ret ?_
                    obtain rfl := Option.some.inj H
                    exact ⟨_, _, _, (results_slots rfl), ⟨rfl, rfl⟩, h15.only [] rfl⟩
                · replace H := ite_f c8 H
                  refine RJ.know (t := 62) rfl (congrArg Value.bool c8) ?_
                  refine RJ.run ttok 8 rfl ?_
                  refine RJ.fin [(6, .bool false)] rfl ?_
                  refine J.ret ?_
                  obtain rfl := Option.some.inj H
                  exact ⟨_, _, _, (results_slots rfl), ⟨rfl, rfl⟩, h15.only [] rfl⟩

end Go.SK.T
