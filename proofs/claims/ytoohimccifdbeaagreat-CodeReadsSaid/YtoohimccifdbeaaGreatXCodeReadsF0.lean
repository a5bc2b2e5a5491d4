/- The types of the program, and its functions as the code computes them, each proved. -/
import Derived.Test.YtoohimccifdbeaaGreatXCodeReadsKy
import Derived.Test.YtoohimccifdbeaaGreatProg
set_option linter.unusedVariables false
set_option linter.unusedSimpArgs false
set_option maxRecDepth 20000
set_option maxHeartbeats 40000000
namespace Go.SK.T
open Go Go.SK Go.Proofs
def tt : TT := [(1, ⟨.func, 1, 8, .nilFunc⟩),
 (2, ⟨.int .i64, 1, 8, .int .i64 0⟩),
 (3, ⟨.int .i64, 1, 8, .int .i64 0⟩),
 (4, ⟨.bool, 1, 1, .bool false⟩),
 (5, ⟨.int .u8, 1, 1, .int .u8 0⟩),
 (6, ⟨.int .u8, 1, 1, .int .u8 0⟩),
 (9, ⟨.str, 1, 16, .string ⟨⟨[]⟩⟩⟩),
 (10, ⟨.str, 1, 16, .string ⟨⟨[]⟩⟩⟩),
 (11, ⟨.str, 1, 16, .string ⟨⟨[]⟩⟩⟩),
 (12, ⟨.int .u64, 1, 8, .int .u64 0⟩),
 (15, ⟨.ptr 143, 1, 8, .pointer none⟩),
 (16, ⟨.ptr 146, 1, 8, .pointer none⟩),
 (17, ⟨.ptr 155, 1, 8, .pointer none⟩),
 (20, ⟨.iface, 1, 16, .nilIface⟩),
 (21, ⟨.int .i32, 1, 4, .int .i32 0⟩),
 (22, ⟨.struct [(3, 0, 1), (3, 1, 1), (3, 2, 1), (3, 3, 1), (3, 4, 1), (3, 5, 1), (3, 6, 1), (3, 7, 1)], 8, 64, .agg #[.int .i64 0, .int .i64 0, .int .i64 0, .int .i64 0, .int .i64 0, .int .i64 0, .int .i64 0, .int .i64 0]⟩),
 (23, ⟨.struct [(3, 0, 1), (3, 1, 1), (3, 2, 1), (3, 3, 1), (3, 4, 1), (3, 5, 1), (3, 6, 1), (3, 7, 1)], 8, 64, .agg #[.int .i64 0, .int .i64 0, .int .i64 0, .int .i64 0, .int .i64 0, .int .i64 0, .int .i64 0, .int .i64 0]⟩),
 (24, ⟨.slice 70, 1, 24, .slice none 0 0⟩),
 (25, ⟨.slice 9, 1, 24, .slice none 0 0⟩),
 (26, ⟨.slice 49, 1, 24, .slice none 0 0⟩),
 (27, ⟨.slice 51, 1, 24, .slice none 0 0⟩),
 (28, ⟨.struct [(3, 0, 1), (24, 1, 1), (25, 2, 1), (26, 3, 1), (27, 4, 1)], 5, 104, .agg #[.int .i64 0, .slice none 0 0, .slice none 0 0, .slice none 0 0, .slice none 0 0]⟩),
 (29, ⟨.struct [(3, 0, 1), (24, 1, 1), (25, 2, 1), (26, 3, 1), (27, 4, 1)], 5, 104, .agg #[.int .i64 0, .slice none 0 0, .slice none 0 0, .slice none 0 0, .slice none 0 0]⟩),
 (30, ⟨.func, 1, 8, .nilFunc⟩),
 (31, ⟨.func, 1, 8, .nilFunc⟩),
 (32, ⟨.func, 1, 8, .nilFunc⟩),
 (33, ⟨.slice 5, 1, 24, .slice none 0 0⟩),
 (34, ⟨.int .i64, 1, 8, .int .i64 0⟩),
 (36, ⟨.func, 1, 8, .nilFunc⟩),
 (38, ⟨.func, 1, 8, .nilFunc⟩),
 (39, ⟨.func, 1, 8, .nilFunc⟩),
 (41, ⟨.func, 1, 8, .nilFunc⟩),
 (43, ⟨.func, 1, 8, .nilFunc⟩),
 (44, ⟨.func, 1, 8, .nilFunc⟩),
 (45, ⟨.func, 1, 8, .nilFunc⟩),
 (46, ⟨.int .u16, 1, 2, .int .u16 0⟩),
 (47, ⟨.func, 1, 8, .nilFunc⟩),
 (48, ⟨.struct [(9, 0, 1), (4, 1, 1), (9, 2, 1)], 3, 40, .agg #[.string ⟨⟨[]⟩⟩, .bool false, .string ⟨⟨[]⟩⟩]⟩),
 (49, ⟨.struct [(9, 0, 1), (4, 1, 1), (9, 2, 1)], 3, 40, .agg #[.string ⟨⟨[]⟩⟩, .bool false, .string ⟨⟨[]⟩⟩]⟩),
 (50, ⟨.struct [(9, 0, 1), (9, 1, 1)], 2, 32, .agg #[.string ⟨⟨[]⟩⟩, .string ⟨⟨[]⟩⟩]⟩),
 (51, ⟨.struct [(9, 0, 1), (9, 1, 1)], 2, 32, .agg #[.string ⟨⟨[]⟩⟩, .string ⟨⟨[]⟩⟩]⟩),
 (52, ⟨.func, 1, 8, .nilFunc⟩),
 (53, ⟨.func, 1, 8, .nilFunc⟩),
 (54, ⟨.struct [(9, 0, 1), (9, 1, 1), (4, 2, 1)], 3, 40, .agg #[.string ⟨⟨[]⟩⟩, .string ⟨⟨[]⟩⟩, .bool false]⟩),
 (55, ⟨.struct [(9, 0, 1), (9, 1, 1), (4, 2, 1)], 3, 40, .agg #[.string ⟨⟨[]⟩⟩, .string ⟨⟨[]⟩⟩, .bool false]⟩),
 (56, ⟨.func, 1, 8, .nilFunc⟩),
 (57, ⟨.func, 1, 8, .nilFunc⟩),
 (58, ⟨.func, 1, 8, .nilFunc⟩),
 (59, ⟨.ptr 89, 1, 8, .pointer none⟩),
 (60, ⟨.func, 1, 8, .nilFunc⟩),
 (61, ⟨.int .u64, 1, 8, .int .u64 0⟩),
 (62, ⟨.func, 1, 8, .nilFunc⟩),
 (63, ⟨.func, 1, 8, .nilFunc⟩),
 (64, ⟨.func, 1, 8, .nilFunc⟩),
 (65, ⟨.func, 1, 8, .nilFunc⟩),
 (66, ⟨.func, 1, 8, .nilFunc⟩),
 (67, ⟨.func, 1, 8, .nilFunc⟩),
 (68, ⟨.func, 1, 8, .nilFunc⟩),
 (69, ⟨.func, 1, 8, .nilFunc⟩),
 (70, ⟨.int .u32, 1, 4, .int .u32 0⟩),
 (71, ⟨.func, 1, 8, .nilFunc⟩),
 (72, ⟨.func, 1, 8, .nilFunc⟩),
 (73, ⟨.func, 1, 8, .nilFunc⟩),
 (74, ⟨.func, 1, 8, .nilFunc⟩),
 (75, ⟨.func, 1, 8, .nilFunc⟩),
 (76, ⟨.func, 1, 8, .nilFunc⟩),
 (77, ⟨.func, 1, 8, .nilFunc⟩),
 (78, ⟨.func, 1, 8, .nilFunc⟩),
 (79, ⟨.func, 1, 8, .nilFunc⟩),
 (80, ⟨.func, 1, 8, .nilFunc⟩),
 (81, ⟨.func, 1, 8, .nilFunc⟩),
 (82, ⟨.func, 1, 8, .nilFunc⟩),
 (83, ⟨.func, 1, 8, .nilFunc⟩),
 (84, ⟨.func, 1, 8, .nilFunc⟩),
 (85, ⟨.func, 1, 8, .nilFunc⟩),
 (86, ⟨.func, 1, 8, .nilFunc⟩),
 (87, ⟨.func, 1, 8, .nilFunc⟩),
 (88, ⟨.struct [(33, 0, 1), (34, 1, 1)], 2, 32, .agg #[.slice none 0 0, .int .i64 0]⟩),
 (89, ⟨.struct [(33, 0, 1), (34, 1, 1)], 2, 32, .agg #[.slice none 0 0, .int .i64 0]⟩),
 (90, ⟨.func, 1, 8, .nilFunc⟩),
 (91, ⟨.func, 1, 8, .nilFunc⟩),
 (92, ⟨.int .u64, 1, 8, .int .u64 0⟩),
 (93, ⟨.func, 1, 8, .nilFunc⟩),
 (94, ⟨.func, 1, 8, .nilFunc⟩),
 (95, ⟨.func, 1, 8, .nilFunc⟩),
 (97, ⟨.func, 1, 8, .nilFunc⟩),
 (98, ⟨.func, 1, 8, .nilFunc⟩),
 (99, ⟨.func, 1, 8, .nilFunc⟩),
 (100, ⟨.func, 1, 8, .nilFunc⟩),
 (101, ⟨.func, 1, 8, .nilFunc⟩),
 (102, ⟨.func, 1, 8, .nilFunc⟩),
 (103, ⟨.func, 1, 8, .nilFunc⟩),
 (104, ⟨.func, 1, 8, .nilFunc⟩),
 (105, ⟨.func, 1, 8, .nilFunc⟩),
 (106, ⟨.func, 1, 8, .nilFunc⟩),
 (107, ⟨.func, 1, 8, .nilFunc⟩),
 (108, ⟨.func, 1, 8, .nilFunc⟩),
 (109, ⟨.func, 1, 8, .nilFunc⟩),
 (110, ⟨.func, 1, 8, .nilFunc⟩),
 (111, ⟨.func, 1, 8, .nilFunc⟩),
 (112, ⟨.func, 1, 8, .nilFunc⟩),
 (113, ⟨.func, 1, 8, .nilFunc⟩),
 (114, ⟨.func, 1, 8, .nilFunc⟩),
 (115, ⟨.func, 1, 8, .nilFunc⟩),
 (116, ⟨.func, 1, 8, .nilFunc⟩),
 (117, ⟨.func, 1, 8, .nilFunc⟩),
 (118, ⟨.func, 1, 8, .nilFunc⟩),
 (119, ⟨.func, 1, 8, .nilFunc⟩),
 (120, ⟨.func, 1, 8, .nilFunc⟩),
 (121, ⟨.int .i64, 1, 8, .int .i64 0⟩),
 (123, ⟨.func, 1, 8, .nilFunc⟩),
 (124, ⟨.func, 1, 8, .nilFunc⟩),
 (125, ⟨.func, 1, 8, .nilFunc⟩),
 (126, ⟨.func, 1, 8, .nilFunc⟩),
 (128, ⟨.func, 1, 8, .nilFunc⟩),
 (129, ⟨.func, 1, 8, .nilFunc⟩),
 (130, ⟨.func, 1, 8, .nilFunc⟩),
 (131, ⟨.int .u64, 1, 8, .int .u64 0⟩),
 (132, ⟨.func, 1, 8, .nilFunc⟩),
 (133, ⟨.func, 1, 8, .nilFunc⟩),
 (134, ⟨.func, 1, 8, .nilFunc⟩),
 (135, ⟨.ptr 3, 1, 8, .pointer none⟩),
 (136, ⟨.func, 1, 8, .nilFunc⟩),
 (137, ⟨.func, 1, 8, .nilFunc⟩),
 (138, ⟨.ptr 131, 1, 8, .pointer none⟩),
 (140, ⟨.func, 1, 8, .nilFunc⟩),
 (141, ⟨.func, 1, 8, .nilFunc⟩),
 (147, ⟨.func, 1, 8, .nilFunc⟩),
 (148, ⟨.int .u8, 1, 1, .int .u8 0⟩),
 (149, ⟨.int .u8, 1, 1, .int .u8 0⟩),
 (150, ⟨.func, 1, 8, .nilFunc⟩),
 (151, ⟨.ptr 5, 1, 8, .pointer none⟩),
 (152, ⟨.int .i32, 1, 4, .int .i32 0⟩),
 (153, ⟨.int .i32, 1, 4, .int .i32 0⟩)]
theorem Za : Yi Tryz.prog tt := by
 refine Zn ⟨by kernel_rfl, ⟨_, _, _, Tryz.underlying1⟩⟩ (Zn ⟨by kernel_rfl, Tryz.underlying2⟩ (Zn ⟨by kernel_rfl, Tryz.underlying3⟩ (Zn ⟨by kernel_rfl, Tryz.underlying4⟩ (Zn ⟨by kernel_rfl, Tryz.underlying5⟩ (Zn ⟨by kernel_rfl, Tryz.underlying6⟩ (Zn ⟨by kernel_rfl, Tryz.underlying9⟩ (Zn ⟨by kernel_rfl, Tryz.underlying10⟩ (Zn ⟨by kernel_rfl, Tryz.underlying11⟩ (Zn ⟨by kernel_rfl, Tryz.underlying12⟩ (Zn ⟨by kernel_rfl, Tryz.underlying15⟩ (Zn ⟨by kernel_rfl, Tryz.underlying16⟩ (Zn ⟨by kernel_rfl, Tryz.underlying17⟩ (Zn ⟨by kernel_rfl, ⟨_, Tryz.underlying20⟩⟩ (Zn ⟨by kernel_rfl, Tryz.underlying21⟩ (Zn ⟨by kernel_rfl, ⟨_, Tryz.underlying22, by kernel_rfl, by kernel_rfl, by kernel_rfl, by kernel_rfl, by kernel_rfl, by kernel_rfl⟩⟩ (Zn ⟨by kernel_rfl, ⟨_, Tryz.underlying23, by kernel_rfl, by kernel_rfl, by kernel_rfl, by kernel_rfl, by kernel_rfl, by kernel_rfl⟩⟩ (Zn ⟨by kernel_rfl, Tryz.underlying24⟩ (Zn ⟨by kernel_rfl, Tryz.underlying25⟩ (Zn ⟨by kernel_rfl, Tryz.underlying26⟩ (Zn ⟨by kernel_rfl, Tryz.underlying27⟩ (Zn ⟨by kernel_rfl, ⟨_, Tryz.underlying28, by kernel_rfl, by kernel_rfl, by kernel_rfl, by kernel_rfl, by kernel_rfl, by kernel_rfl⟩⟩ (Zn ⟨by kernel_rfl, ⟨_, Tryz.underlying29, by kernel_rfl, by kernel_rfl, by kernel_rfl, by kernel_rfl, by kernel_rfl, by kernel_rfl⟩⟩ (Zn ⟨by kernel_rfl, ⟨_, _, _, Tryz.underlying30⟩⟩ (Zn ⟨by kernel_rfl, ⟨_, _, _, Tryz.underlying31⟩⟩ (Zn ⟨by kernel_rfl, ⟨_, _, _, Tryz.underlying32⟩⟩ (Zn ⟨by kernel_rfl, Tryz.underlying33⟩ (Zn ⟨by kernel_rfl, Tryz.underlying34⟩ (Zn ⟨by kernel_rfl, ⟨_, _, _, Tryz.underlying36⟩⟩ (Zn ⟨by kernel_rfl, ⟨_, _, _, Tryz.underlying38⟩⟩ (Zn ⟨by kernel_rfl, ⟨_, _, _, Tryz.underlying39⟩⟩ (Zn ⟨by kernel_rfl, ⟨_, _, _, Tryz.underlying41⟩⟩ (Zn ⟨by kernel_rfl, ⟨_, _, _, Tryz.underlying43⟩⟩ (Zn ⟨by kernel_rfl, ⟨_, _, _, Tryz.underlying44⟩⟩ (Zn ⟨by kernel_rfl, ⟨_, _, _, Tryz.underlying45⟩⟩ (Zn ⟨by kernel_rfl, Tryz.underlying46⟩ (Zn ⟨by kernel_rfl, ⟨_, _, _, Tryz.underlying47⟩⟩ (Zn ⟨by kernel_rfl, ⟨_, Tryz.underlying48, by kernel_rfl, by kernel_rfl, by kernel_rfl, by kernel_rfl, by kernel_rfl, by kernel_rfl⟩⟩ (Zn ⟨by kernel_rfl, ⟨_, Tryz.underlying49, by kernel_rfl, by kernel_rfl, by kernel_rfl, by kernel_rfl, by kernel_rfl, by kernel_rfl⟩⟩ (Zn ⟨by kernel_rfl, ⟨_, Tryz.underlying50, by kernel_rfl, by kernel_rfl, by kernel_rfl, by kernel_rfl, by kernel_rfl, by kernel_rfl⟩⟩ (Zn ⟨by kernel_rfl, ⟨_, Tryz.underlying51, by kernel_rfl, by kernel_rfl, by kernel_rfl, by kernel_rfl, by kernel_rfl, by kernel_rfl⟩⟩ (Zn ⟨by kernel_rfl, ⟨_, _, _, Tryz.underlying52⟩⟩ (Zn ⟨by kernel_rfl, ⟨_, _, _, Tryz.underlying53⟩⟩ (Zn ⟨by kernel_rfl, ⟨_, Tryz.underlying54, by kernel_rfl, by kernel_rfl, by kernel_rfl, by kernel_rfl, by kernel_rfl, by kernel_rfl⟩⟩ (Zn ⟨by kernel_rfl, ⟨_, Tryz.underlying55, by kernel_rfl, by kernel_rfl, by kernel_rfl, by kernel_rfl, by kernel_rfl, by kernel_rfl⟩⟩ (Zn ⟨by kernel_rfl, ⟨_, _, _, Tryz.underlying56⟩⟩ (Zn ⟨by kernel_rfl, ⟨_, _, _, Tryz.underlying57⟩⟩ (Zn ⟨by kernel_rfl, ⟨_, _, _, Tryz.underlying58⟩⟩ (Zn ⟨by kernel_rfl, Tryz.underlying59⟩ (Zn ⟨by kernel_rfl, ⟨_, _, _, Tryz.underlying60⟩⟩ (Zn ⟨by kernel_rfl, Tryz.underlying61⟩ (Zn ⟨by kernel_rfl, ⟨_, _, _, Tryz.underlying62⟩⟩ (Zn ⟨by kernel_rfl, ⟨_, _, _, Tryz.underlying63⟩⟩ (Zn ⟨by kernel_rfl, ⟨_, _, _, Tryz.underlying64⟩⟩ (Zn ⟨by kernel_rfl, ⟨_, _, _, Tryz.underlying65⟩⟩ (Zn ⟨by kernel_rfl, ⟨_, _, _, Tryz.underlying66⟩⟩ (Zn ⟨by kernel_rfl, ⟨_, _, _, Tryz.underlying67⟩⟩ (Zn ⟨by kernel_rfl, ⟨_, _, _, Tryz.underlying68⟩⟩ (Zn ⟨by kernel_rfl, ⟨_, _, _, Tryz.underlying69⟩⟩ (Zn ⟨by kernel_rfl, Tryz.underlying70⟩ (Zn ⟨by kernel_rfl, ⟨_, _, _, Tryz.underlying71⟩⟩ (Zn ⟨by kernel_rfl, ⟨_, _, _, Tryz.underlying72⟩⟩ (Zn ⟨by kernel_rfl, ⟨_, _, _, Tryz.underlying73⟩⟩ (Zn ⟨by kernel_rfl, ⟨_, _, _, Tryz.underlying74⟩⟩ (Zn ⟨by kernel_rfl, ⟨_, _, _, Tryz.underlying75⟩⟩ (Zn ⟨by kernel_rfl, ⟨_, _, _, Tryz.underlying76⟩⟩ (Zn ⟨by kernel_rfl, ⟨_, _, _, Tryz.underlying77⟩⟩ (Zn ⟨by kernel_rfl, ⟨_, _, _, Tryz.underlying78⟩⟩ (Zn ⟨by kernel_rfl, ⟨_, _, _, Tryz.underlying79⟩⟩ (Zn ⟨by kernel_rfl, ⟨_, _, _, Tryz.underlying80⟩⟩ (Zn ⟨by kernel_rfl, ⟨_, _, _, Tryz.underlying81⟩⟩ (Zn ⟨by kernel_rfl, ⟨_, _, _, Tryz.underlying82⟩⟩ (Zn ⟨by kernel_rfl, ⟨_, _, _, Tryz.underlying83⟩⟩ (Zn ⟨by kernel_rfl, ⟨_, _, _, Tryz.underlying84⟩⟩ (Zn ⟨by kernel_rfl, ⟨_, _, _, Tryz.underlying85⟩⟩ (Zn ⟨by kernel_rfl, ⟨_, _, _, Tryz.underlying86⟩⟩ (Zn ⟨by kernel_rfl, ⟨_, _, _, Tryz.underlying87⟩⟩ (Zn ⟨by kernel_rfl, ⟨_, Tryz.underlying88, by kernel_rfl, by kernel_rfl, by kernel_rfl, by kernel_rfl, by kernel_rfl, by kernel_rfl⟩⟩ (Zn ⟨by kernel_rfl, ⟨_, Tryz.underlying89, by kernel_rfl, by kernel_rfl, by kernel_rfl, by kernel_rfl, by kernel_rfl, by kernel_rfl⟩⟩ (Zn ⟨by kernel_rfl, ⟨_, _, _, Tryz.underlying90⟩⟩ (Zn ⟨by kernel_rfl, ⟨_, _, _, Tryz.underlying91⟩⟩ (Zn ⟨by kernel_rfl, Tryz.underlying92⟩ (Zn ⟨by kernel_rfl, ⟨_, _, _, Tryz.underlying93⟩⟩ (Zn ⟨by kernel_rfl, ⟨_, _, _, Tryz.underlying94⟩⟩ (Zn ⟨by kernel_rfl, ⟨_, _, _, Tryz.underlying95⟩⟩ (Zn ⟨by kernel_rfl, ⟨_, _, _, Tryz.underlying97⟩⟩ (Zn ⟨by kernel_rfl, ⟨_, _, _, Tryz.underlying98⟩⟩ (Zn ⟨by kernel_rfl, ⟨_, _, _, Tryz.underlying99⟩⟩ (Zn ⟨by kernel_rfl, ⟨_, _, _, Tryz.underlying100⟩⟩ (Zn ⟨by kernel_rfl, ⟨_, _, _, Tryz.underlying101⟩⟩ (Zn ⟨by kernel_rfl, ⟨_, _, _, Tryz.underlying102⟩⟩ (Zn ⟨by kernel_rfl, ⟨_, _, _, Tryz.underlying103⟩⟩ (Zn ⟨by kernel_rfl, ⟨_, _, _, Tryz.underlying104⟩⟩ (Zn ⟨by kernel_rfl, ⟨_, _, _, Tryz.underlying105⟩⟩ (Zn ⟨by kernel_rfl, ⟨_, _, _, Tryz.underlying106⟩⟩ (Zn ⟨by kernel_rfl, ⟨_, _, _, Tryz.underlying107⟩⟩ (Zn ⟨by kernel_rfl, ⟨_, _, _, Tryz.underlying108⟩⟩ (Zn ⟨by kernel_rfl, ⟨_, _, _, Tryz.underlying109⟩⟩ (Zn ⟨by kernel_rfl, ⟨_, _, _, Tryz.underlying110⟩⟩ (Zn ⟨by kernel_rfl, ⟨_, _, _, Tryz.underlying111⟩⟩ (Zn ⟨by kernel_rfl, ⟨_, _, _, Tryz.underlying112⟩⟩ (Zn ⟨by kernel_rfl, ⟨_, _, _, Tryz.underlying113⟩⟩ (Zn ⟨by kernel_rfl, ⟨_, _, _, Tryz.underlying114⟩⟩ (Zn ⟨by kernel_rfl, ⟨_, _, _, Tryz.underlying115⟩⟩ (Zn ⟨by kernel_rfl, ⟨_, _, _, Tryz.underlying116⟩⟩ (Zn ⟨by kernel_rfl, ⟨_, _, _, Tryz.underlying117⟩⟩ (Zn ⟨by kernel_rfl, ⟨_, _, _, Tryz.underlying118⟩⟩ (Zn ⟨by kernel_rfl, ⟨_, _, _, Tryz.underlying119⟩⟩ (Zn ⟨by kernel_rfl, ⟨_, _, _, Tryz.underlying120⟩⟩ (Zn ⟨by kernel_rfl, Tryz.underlying121⟩ (Zn ⟨by kernel_rfl, ⟨_, _, _, Tryz.underlying123⟩⟩ (Zn ⟨by kernel_rfl, ⟨_, _, _, Tryz.underlying124⟩⟩ (Zn ⟨by kernel_rfl, ⟨_, _, _, Tryz.underlying125⟩⟩ (Zn ⟨by kernel_rfl, ⟨_, _, _, Tryz.underlying126⟩⟩ (Zn ⟨by kernel_rfl, ⟨_, _, _, Tryz.underlying128⟩⟩ (Zn ⟨by kernel_rfl, ⟨_, _, _, Tryz.underlying129⟩⟩ (Zn ⟨by kernel_rfl, ⟨_, _, _, Tryz.underlying130⟩⟩ (Zn ⟨by kernel_rfl, Tryz.underlying131⟩ (Zn ⟨by kernel_rfl, ⟨_, _, _, Tryz.underlying132⟩⟩ (Zn ⟨by kernel_rfl, ⟨_, _, _, Tryz.underlying133⟩⟩ (Zn ⟨by kernel_rfl, ⟨_, _, _, Tryz.underlying134⟩⟩ (Zn ⟨by kernel_rfl, Tryz.underlying135⟩ (Zn ⟨by kernel_rfl, ⟨_, _, _, Tryz.underlying136⟩⟩ (Zn ⟨by kernel_rfl, ⟨_, _, _, Tryz.underlying137⟩⟩ (Zn ⟨by kernel_rfl, Tryz.underlying138⟩ (Zn ⟨by kernel_rfl, ⟨_, _, _, Tryz.underlying140⟩⟩ (Zn ⟨by kernel_rfl, ⟨_, _, _, Tryz.underlying141⟩⟩ (Zn ⟨by kernel_rfl, ⟨_, _, _, Tryz.underlying147⟩⟩ (Zn ⟨by kernel_rfl, Tryz.underlying148⟩ (Zn ⟨by kernel_rfl, Tryz.underlying149⟩ (Zn ⟨by kernel_rfl, ⟨_, _, _, Tryz.underlying150⟩⟩ (Zn ⟨by kernel_rfl, Tryz.underlying151⟩ (Zn ⟨by kernel_rfl, Tryz.underlying152⟩ (Zn ⟨by kernel_rfl, Tryz.underlying153⟩ ?_)))))))))))))))))))))))))))))))))))))))))))))))))))))))))))))))))))))))))))))))))))))))))))))))))))))))))))))))))))))))))))))))))))))
 exact Zex _
theorem mix : Tryz.prog.follows .mixedOrders = true := by kernel_rfl
theorem Zgl : CmpStr Tryz.prog 111 := CmpStr.of Tryz.func111 (by kernel_rfl) (by kernel_rfl) (by kernel_rfl) rfl
def Q67.f (a0 : Int × Int × Int × Int × Int × Int × Int × Int) : Option (Bool) := some (decide (a0.2.1 ≤ 3000))
theorem Q67.spec {a0 : Int × Int × Int × Int × Int × Int × Int × Int}  {r : Bool} (H : Q67.f a0 = some r) :
  Spec Tryz.prog 6 [.agg #[.int .i64 a0.1, .int .i64 a0.2.1, .int .i64 a0.2.2.1, .int .i64 a0.2.2.2.1, .int .i64 a0.2.2.2.2.1, .int .i64 a0.2.2.2.2.2.1, .int .i64 a0.2.2.2.2.2.2.1, .int .i64 a0.2.2.2.2.2.2.2]] [] [] (fun v l => v = .bool r ∧ l = []) := by
 refine Spec.enter Tryz.func6 rfl (by kernel_rfl) (by kernel_rfl) fun w0 F0 h0 => ?_
 unfold Q67.f at H
 refine J.seq (J.region ?_)
 refine RJ.op rfl rfl (Z2 rfl rfl h0) ?_
 rintro _ w1 ⟨b1, rfl, h1⟩
 replace h1 : St w0 F0 [Zh b1 23 [.int .i64 a0.1, .int .i64 a0.2.1, .int .i64 a0.2.2.1, .int .i64 a0.2.2.2.1, .int .i64 a0.2.2.2.2.1, .int .i64 a0.2.2.2.2.2.1, .int .i64 a0.2.2.2.2.2.2.1, .int .i64 a0.2.2.2.2.2.2.2]] _ _ := h1
 refine RJ.run Za 1 rfl (RJ.fin [(1, .pointer (some ⟨b1, 0, none⟩))] rfl (J.seq (J.region ?_)))
 refine RJ.run Za 1 rfl (RJ.q rfl rfl (Zc Za 0 h1.wht rfl rfl rfl rfl rfl) (RJ.run Za 2 rfl (RJ.fin [(2, .bool (decide (a0.2.1 ≤ 3000)))] rfl (J.ret ?_))))
 obtain rfl := Option.some.inj H
 exact ⟨_, _, _, (Zb rfl), ⟨rfl, rfl⟩, h1.only [] rfl⟩

def Q21.f (a0 : Int × Int × Int × Int × Int × Int × Int × Int) : Option (Bool) := if (decide (a0.2.2.2.1 < 8)) = true then (some false) else (if (decide (64 < a0.2.2.2.1)) = true then (some false) else (if (decide (a0.2.2.2.2.1 < (w64 (2 * a0.2.2.2.1)))) = true then (some false) else (if (decide (512 < a0.2.2.2.2.1)) = true then (some false) else (if (decide (a0.2.2.2.2.2.1 < a0.2.2.2.2.1)) = true then (some false) else (if (decide (1024 < a0.2.2.2.2.2.1)) = true then (some false) else (if (decide (a0.2.2.2.2.2.2.1 < 1)) = true then (some false) else (if (decide (64 < a0.2.2.2.2.2.2.1)) = true then (some false) else (if (decide (a0.2.2.2.2.2.2.2 < 0)) = true then (some false) else (if (decide (256 < a0.2.2.2.2.2.2.2)) = true then (some false) else (some true))))))))))
theorem Q21.spec {a0 : Int × Int × Int × Int × Int × Int × Int × Int}  {r : Bool} (H : Q21.f a0 = some r) :
  Spec Tryz.prog 37 [.agg #[.int .i64 a0.1, .int .i64 a0.2.1, .int .i64 a0.2.2.1, .int .i64 a0.2.2.2.1, .int .i64 a0.2.2.2.2.1, .int .i64 a0.2.2.2.2.2.1, .int .i64 a0.2.2.2.2.2.2.1, .int .i64 a0.2.2.2.2.2.2.2]] [] [] (fun v l => v = .bool r ∧ l = []) := by
 refine Spec.enter Tryz.func37 rfl (by kernel_rfl) (by kernel_rfl) fun w0 F0 h0 => ?_
 unfold Q21.f at H
 refine J.seq (J.region ?_)
 refine RJ.op rfl rfl (Z2 rfl rfl h0) ?_
 rintro _ w1 ⟨b1, rfl, h1⟩
 replace h1 : St w0 F0 [Zh b1 23 [.int .i64 a0.1, .int .i64 a0.2.1, .int .i64 a0.2.2.1, .int .i64 a0.2.2.2.1, .int .i64 a0.2.2.2.2.1, .int .i64 a0.2.2.2.2.2.1, .int .i64 a0.2.2.2.2.2.2.1, .int .i64 a0.2.2.2.2.2.2.2]] _ _ := h1
 refine RJ.run Za 1 rfl (RJ.fin [(1, .pointer (some ⟨b1, 0, none⟩))] rfl (J.seq (J.block (J.seq (J.region ?_)))))
 refine RJ.run Za 1 rfl (RJ.q rfl rfl (Zc Za 0 h1.wht rfl rfl rfl rfl rfl) (RJ.run Za 2 rfl ?_))
 rcases Bool.eq_false_or_eq_true (decide (a0.2.2.2.1 < 8)) with c1 | c1
 ·replace H := Zi c1 H
  refine RJ.know (t := 7) rfl (congrArg Value.bool c1) (RJ.run Za 5 rfl (RJ.fin [(1, _), (3, .bool true)] rfl (J.condT rfl (J.skip (J.seq (J.region ?_))))))
  refine RJ.run Za 1 rfl (RJ.fin [(2, .bool false)] rfl (J.ret ?_))
  obtain rfl := Option.some.inj H
  exact ⟨_, _, _, (Zb rfl), ⟨rfl, rfl⟩, h1.only [] rfl⟩
 replace H := Zg c1 H
 refine RJ.know (t := 7) rfl (congrArg Value.bool c1) (RJ.run Za 1 rfl (RJ.q rfl rfl (Zc Za 0 h1.wht rfl rfl rfl rfl rfl) (RJ.run Za 3 rfl (RJ.fin [(1, _), (3, .bool (decide (64 < a0.2.2.2.1)))] rfl (J.cond rfl (fun c2 => ?_) (fun c2 => ?_))))))
 ·replace H := Zi c2 H
  refine J.skip (J.seq (J.region ?_))
  refine RJ.run Za 1 rfl (RJ.fin [(2, .bool false)] rfl (J.ret ?_))
  obtain rfl := Option.some.inj H
  exact ⟨_, _, _, (Zb rfl), ⟨rfl, rfl⟩, h1.only [] rfl⟩
 replace H := Zg c2 H
 refine J.seq (J.region ?_)
 refine RJ.run Za 1 rfl (RJ.q rfl rfl (Zc Za 0 h1.wht rfl rfl rfl rfl rfl) (RJ.run Za 1 rfl (RJ.q rfl rfl (Zc Za 0 h1.wht rfl rfl rfl rfl rfl) (RJ.run Za 3 rfl ?_))))
 rcases Bool.eq_false_or_eq_true (decide (a0.2.2.2.2.1 < (w64 (2 * a0.2.2.2.1)))) with c3 | c3
 ·replace H := Zi c3 H
  refine RJ.know (t := 19) rfl (congrArg Value.bool c3) (RJ.run Za 5 rfl (RJ.fin [(1, _), (12, .bool true)] rfl (J.condT rfl (J.skip (J.seq (J.region ?_))))))
  refine RJ.run Za 1 rfl (RJ.fin [(2, .bool false)] rfl (J.ret ?_))
  obtain rfl := Option.some.inj H
  exact ⟨_, _, _, (Zb rfl), ⟨rfl, rfl⟩, h1.only [] rfl⟩
 replace H := Zg c3 H
 refine RJ.know (t := 19) rfl (congrArg Value.bool c3) (RJ.run Za 1 rfl (RJ.q rfl rfl (Zc Za 0 h1.wht rfl rfl rfl rfl rfl) (RJ.run Za 3 rfl (RJ.fin [(1, _), (12, .bool (decide (512 < a0.2.2.2.2.1)))] rfl (J.cond rfl (fun c4 => ?_) (fun c4 => ?_))))))
 ·replace H := Zi c4 H
  refine J.skip (J.seq (J.region ?_))
  refine RJ.run Za 1 rfl (RJ.fin [(2, .bool false)] rfl (J.ret ?_))
  obtain rfl := Option.some.inj H
  exact ⟨_, _, _, (Zb rfl), ⟨rfl, rfl⟩, h1.only [] rfl⟩
 replace H := Zg c4 H
 refine J.seq (J.region ?_)
 refine RJ.run Za 1 rfl (RJ.q rfl rfl (Zc Za 0 h1.wht rfl rfl rfl rfl rfl) (RJ.run Za 1 rfl (RJ.q rfl rfl (Zc Za 0 h1.wht rfl rfl rfl rfl rfl) (RJ.run Za 2 rfl ?_))))
 rcases Bool.eq_false_or_eq_true (decide (a0.2.2.2.2.2.1 < a0.2.2.2.2.1)) with c5 | c5
 ·replace H := Zi c5 H
  refine RJ.know (t := 30) rfl (congrArg Value.bool c5) (RJ.run Za 5 rfl (RJ.fin [(1, _), (24, .bool true)] rfl (J.condT rfl (J.skip (J.seq (J.region ?_))))))
  refine RJ.run Za 1 rfl (RJ.fin [(2, .bool false)] rfl (J.ret ?_))
  obtain rfl := Option.some.inj H
  exact ⟨_, _, _, (Zb rfl), ⟨rfl, rfl⟩, h1.only [] rfl⟩
 replace H := Zg c5 H
 refine RJ.know (t := 30) rfl (congrArg Value.bool c5) (RJ.run Za 1 rfl (RJ.q rfl rfl (Zc Za 0 h1.wht rfl rfl rfl rfl rfl) (RJ.run Za 3 rfl (RJ.fin [(1, _), (24, .bool (decide (1024 < a0.2.2.2.2.2.1)))] rfl (J.cond rfl (fun c6 => ?_) (fun c6 => ?_))))))
 ·replace H := Zi c6 H
  refine J.skip (J.seq (J.region ?_))
  refine RJ.run Za 1 rfl (RJ.fin [(2, .bool false)] rfl (J.ret ?_))
  obtain rfl := Option.some.inj H
  exact ⟨_, _, _, (Zb rfl), ⟨rfl, rfl⟩, h1.only [] rfl⟩
 replace H := Zg c6 H
 refine J.seq (J.region ?_)
 refine RJ.run Za 1 rfl (RJ.q rfl rfl (Zc Za 0 h1.wht rfl rfl rfl rfl rfl) (RJ.run Za 2 rfl ?_))
 rcases Bool.eq_false_or_eq_true (decide (a0.2.2.2.2.2.2.1 < 1)) with c7 | c7
 ·replace H := Zi c7 H
  refine RJ.know (t := 39) rfl (congrArg Value.bool c7) (RJ.run Za 5 rfl (RJ.fin [(1, _), (35, .bool true)] rfl (J.condT rfl (J.skip (J.seq (J.region ?_))))))
  refine RJ.run Za 1 rfl (RJ.fin [(2, .bool false)] rfl (J.ret ?_))
  obtain rfl := Option.some.inj H
  exact ⟨_, _, _, (Zb rfl), ⟨rfl, rfl⟩, h1.only [] rfl⟩
 replace H := Zg c7 H
 refine RJ.know (t := 39) rfl (congrArg Value.bool c7) (RJ.run Za 1 rfl (RJ.q rfl rfl (Zc Za 0 h1.wht rfl rfl rfl rfl rfl) (RJ.run Za 3 rfl (RJ.fin [(1, _), (35, .bool (decide (64 < a0.2.2.2.2.2.2.1)))] rfl (J.cond rfl (fun c8 => ?_) (fun c8 => ?_))))))
 ·replace H := Zi c8 H
  refine J.skip (J.seq (J.region ?_))
  refine RJ.run Za 1 rfl (RJ.fin [(2, .bool false)] rfl (J.ret ?_))
  obtain rfl := Option.some.inj H
  exact ⟨_, _, _, (Zb rfl), ⟨rfl, rfl⟩, h1.only [] rfl⟩
 replace H := Zg c8 H
 refine J.seq (J.region ?_)
 refine RJ.run Za 1 rfl (RJ.q rfl rfl (Zc Za 0 h1.wht rfl rfl rfl rfl rfl) (RJ.run Za 2 rfl ?_))
 rcases Bool.eq_false_or_eq_true (decide (a0.2.2.2.2.2.2.2 < 0)) with c9 | c9
 ·replace H := Zi c9 H
  refine RJ.know (t := 48) rfl (congrArg Value.bool c9) (RJ.run Za 5 rfl (RJ.fin [(44, .bool true)] rfl (J.condT rfl (J.skip (J.seq (J.region ?_))))))
  refine RJ.run Za 1 rfl (RJ.fin [(2, .bool false)] rfl (J.ret ?_))
  obtain rfl := Option.some.inj H
  exact ⟨_, _, _, (Zb rfl), ⟨rfl, rfl⟩, h1.only [] rfl⟩
 replace H := Zg c9 H
 refine RJ.know (t := 48) rfl (congrArg Value.bool c9) (RJ.run Za 1 rfl (RJ.q rfl rfl (Zc Za 0 h1.wht rfl rfl rfl rfl rfl) (RJ.run Za 3 rfl (RJ.fin [(44, .bool (decide (256 < a0.2.2.2.2.2.2.2)))] rfl (J.cond rfl (fun c10 => ?_) (fun c10 => ?_))))))
 ·replace H := Zi c10 H
  refine J.skip (J.seq (J.region ?_))
  refine RJ.run Za 1 rfl (RJ.fin [(2, .bool false)] rfl (J.ret ?_))
  obtain rfl := Option.some.inj H
  exact ⟨_, _, _, (Zb rfl), ⟨rfl, rfl⟩, h1.only [] rfl⟩
 replace H := Zg c10 H
 refine J.seq (J.region ?_)
 refine RJ.run Za 1 rfl (RJ.fin [(2, .bool true)] rfl (J.ret ?_))
 obtain rfl := Option.some.inj H
 exact ⟨_, _, _, (Zb rfl), ⟨rfl, rfl⟩, h1.only [] rfl⟩

def Q18.f (a0 : Int × Int × Int × Int × Int × Int × Int × Int) : Option (Int) := (Q21.f (a0.1, a0.2.1, a0.2.2.1, a0.2.2.2.1, a0.2.2.2.2.1, a0.2.2.2.2.2.1, a0.2.2.2.2.2.2.1, a0.2.2.2.2.2.2.2)).bind fun r1 => (if (!r1) = true then (some 0) else (some (w64 ((w64 ((w64 (8 + (w64 (4 * a0.2.2.2.1)))) + (w64 ((w64 (a0.2.2.2.1 - 1)) * (w64 (1 + a0.2.2.2.2.2.2.1)))))) + (w64 (a0.2.2.2.2.1 * (w64 ((w64 (4 + a0.2.2.2.2.2.2.1)) + a0.2.2.2.2.2.2.2))))))))
theorem Q18.spec {a0 : Int × Int × Int × Int × Int × Int × Int × Int}  {r : Int} (H : Q18.f a0 = some r) :
  Spec Tryz.prog 64 [.agg #[.int .i64 a0.1, .int .i64 a0.2.1, .int .i64 a0.2.2.1, .int .i64 a0.2.2.2.1, .int .i64 a0.2.2.2.2.1, .int .i64 a0.2.2.2.2.2.1, .int .i64 a0.2.2.2.2.2.2.1, .int .i64 a0.2.2.2.2.2.2.2]] [] [] (fun v l => v = .int .i64 r ∧ l = []) := by
 refine Spec.enter Tryz.func64 rfl (by kernel_rfl) (by kernel_rfl) fun w0 F0 h0 => ?_
 unfold Q18.f at H
 refine J.seq (J.region ?_)
 refine RJ.op rfl rfl (Z2 rfl rfl h0) ?_
 rintro _ w1 ⟨b1, rfl, h1⟩
 replace h1 : St w0 F0 [Zh b1 23 [.int .i64 a0.1, .int .i64 a0.2.1, .int .i64 a0.2.2.1, .int .i64 a0.2.2.2.1, .int .i64 a0.2.2.2.2.1, .int .i64 a0.2.2.2.2.2.1, .int .i64 a0.2.2.2.2.2.2.1, .int .i64 a0.2.2.2.2.2.2.2]] _ _ := h1
 refine RJ.run Za 1 rfl (RJ.fin [(1, .pointer (some ⟨b1, 0, none⟩))] rfl (J.seq (J.seq (J.region ?_))))
 refine RJ.q rfl rfl (Zc Za 0 h1.wht rfl rfl rfl rfl rfl) ?_
 obtain ⟨r1, q1, H⟩ := Zj H
 refine RJ.op rfl rfl (Zd [] (Q21.spec q1) rfl rfl rfl h1 rfl Zm) ?_
 rintro _ w2 ⟨_, ⟨rfl, rfl⟩, h2⟩
 replace h2 : St w0 F0 [_] _ _ := h2
 refine RJ.run Za 1 rfl (RJ.fin [(1, _), (5, .bool (!r1))] rfl (J.cond rfl (fun c1 => ?_) (fun c1 => ?_)))
 ·replace H := Zi c1 H
  refine J.seq (J.region ?_)
  refine RJ.run Za 1 rfl (RJ.fin [(2, .int .i64 0)] rfl (J.ret ?_))
  obtain rfl := Option.some.inj H
  exact ⟨_, _, _, (Zb rfl), ⟨rfl, rfl⟩, h2.only [] rfl⟩
 replace H := Zg c1 H
 refine J.skip (J.seq (J.region ?_))
 refine RJ.run Za 1 rfl (RJ.q rfl rfl (Zc Za 0 h2.wht rfl rfl rfl rfl rfl) (RJ.run Za 3 rfl (RJ.q rfl rfl (Zc Za 0 h2.wht rfl rfl rfl rfl rfl) (RJ.run Za 2 rfl (RJ.q rfl rfl (Zc Za 0 h2.wht rfl rfl rfl rfl rfl) (RJ.run Za 4 rfl (RJ.q rfl rfl (Zc Za 0 h2.wht rfl rfl rfl rfl rfl) (RJ.run Za 1 rfl (RJ.q rfl rfl (Zc Za 0 h2.wht rfl rfl rfl rfl rfl) (RJ.run Za 2 rfl (RJ.q rfl rfl (Zc Za 0 h2.wht rfl rfl rfl rfl rfl) (RJ.run Za 4 rfl (RJ.fin [(2, .int .i64 (w64 ((w64 ((w64 (8 + (w64 (4 * a0.2.2.2.1)))) + (w64 ((w64 (a0.2.2.2.1 - 1)) * (w64 (1 + a0.2.2.2.2.2.2.1)))))) + (w64 (a0.2.2.2.2.1 * (w64 ((w64 (4 + a0.2.2.2.2.2.2.1)) + a0.2.2.2.2.2.2.2)))))))] rfl (J.ret ?_))))))))))))))
 obtain rfl := Option.some.inj H
 exact ⟨_, _, _, (Zb rfl), ⟨rfl, rfl⟩, h2.only [] rfl⟩

def Q20.f (a0 : Int × Int × Int × Int × Int × Int × Int × Int) : Option (Int) := (Q21.f (a0.1, a0.2.1, a0.2.2.1, a0.2.2.2.1, a0.2.2.2.2.1, a0.2.2.2.2.2.1, a0.2.2.2.2.2.2.1, a0.2.2.2.2.2.2.2)).bind fun r1 => (if (!r1) = true then (some 0) else (some (w64 (8 + (w64 (a0.2.2.2.2.2.1 * (w64 ((w64 (3 + a0.2.2.2.2.2.2.1)) + a0.2.2.2.2.2.2.2))))))))
theorem Q20.spec {a0 : Int × Int × Int × Int × Int × Int × Int × Int}  {r : Int} (H : Q20.f a0 = some r) :
  Spec Tryz.prog 65 [.agg #[.int .i64 a0.1, .int .i64 a0.2.1, .int .i64 a0.2.2.1, .int .i64 a0.2.2.2.1, .int .i64 a0.2.2.2.2.1, .int .i64 a0.2.2.2.2.2.1, .int .i64 a0.2.2.2.2.2.2.1, .int .i64 a0.2.2.2.2.2.2.2]] [] [] (fun v l => v = .int .i64 r ∧ l = []) := by
 refine Spec.enter Tryz.func65 rfl (by kernel_rfl) (by kernel_rfl) fun w0 F0 h0 => ?_
 unfold Q20.f at H
 refine J.seq (J.region ?_)
 refine RJ.op rfl rfl (Z2 rfl rfl h0) ?_
 rintro _ w1 ⟨b1, rfl, h1⟩
 replace h1 : St w0 F0 [Zh b1 23 [.int .i64 a0.1, .int .i64 a0.2.1, .int .i64 a0.2.2.1, .int .i64 a0.2.2.2.1, .int .i64 a0.2.2.2.2.1, .int .i64 a0.2.2.2.2.2.1, .int .i64 a0.2.2.2.2.2.2.1, .int .i64 a0.2.2.2.2.2.2.2]] _ _ := h1
 refine RJ.run Za 1 rfl (RJ.fin [(1, .pointer (some ⟨b1, 0, none⟩))] rfl (J.seq (J.seq (J.region ?_))))
 refine RJ.q rfl rfl (Zc Za 0 h1.wht rfl rfl rfl rfl rfl) ?_
 obtain ⟨r1, q1, H⟩ := Zj H
 refine RJ.op rfl rfl (Zd [] (Q21.spec q1) rfl rfl rfl h1 rfl Zm) ?_
 rintro _ w2 ⟨_, ⟨rfl, rfl⟩, h2⟩
 replace h2 : St w0 F0 [_] _ _ := h2
 refine RJ.run Za 1 rfl (RJ.fin [(1, _), (5, .bool (!r1))] rfl (J.cond rfl (fun c1 => ?_) (fun c1 => ?_)))
 ·replace H := Zi c1 H
  refine J.seq (J.region ?_)
  refine RJ.run Za 1 rfl (RJ.fin [(2, .int .i64 0)] rfl (J.ret ?_))
  obtain rfl := Option.some.inj H
  exact ⟨_, _, _, (Zb rfl), ⟨rfl, rfl⟩, h2.only [] rfl⟩
 replace H := Zg c1 H
 refine J.skip (J.seq (J.region ?_))
 refine RJ.run Za 1 rfl (RJ.q rfl rfl (Zc Za 0 h2.wht rfl rfl rfl rfl rfl) (RJ.run Za 1 rfl (RJ.q rfl rfl (Zc Za 0 h2.wht rfl rfl rfl rfl rfl) (RJ.run Za 2 rfl (RJ.q rfl rfl (Zc Za 0 h2.wht rfl rfl rfl rfl rfl) (RJ.run Za 4 rfl (RJ.fin [(2, .int .i64 (w64 (8 + (w64 (a0.2.2.2.2.2.1 * (w64 ((w64 (3 + a0.2.2.2.2.2.2.1)) + a0.2.2.2.2.2.2.2)))))))] rfl (J.ret ?_))))))))
 obtain rfl := Option.some.inj H
 exact ⟨_, _, _, (Zb rfl), ⟨rfl, rfl⟩, h2.only [] rfl⟩

def Q19.f (a0 : Int × Int × Int × Int × Int × Int × Int × Int) : Option ((Int × Int × Int × Int × Int × Int × Int × Int)) := (Q21.f (a0.1, a0.2.1, a0.2.2.1, a0.2.2.2.1, a0.2.2.2.2.1, a0.2.2.2.2.2.1, a0.2.2.2.2.2.2.1, a0.2.2.2.2.2.2.2)).bind fun r1 => (if r1 = true then ((Q18.f (a0.1, a0.2.1, a0.2.2.1, a0.2.2.2.1, a0.2.2.2.2.1, a0.2.2.2.2.2.1, a0.2.2.2.2.2.2.1, a0.2.2.2.2.2.2.2)).bind fun r2 => ((Q20.f (a0.1, a0.2.1, a0.2.2.1, a0.2.2.2.1, a0.2.2.2.2.1, a0.2.2.2.2.2.1, a0.2.2.2.2.2.2.1, a0.2.2.2.2.2.2.2)).bind fun r3 => (some (a0.1, (if r3 > (if r2 > (64 : Int) then r2 else (64 : Int)) then r3 else (if r2 > (64 : Int) then r2 else (64 : Int))), a0.2.2.1, a0.2.2.2.1, a0.2.2.2.2.1, a0.2.2.2.2.2.1, a0.2.2.2.2.2.2.1, a0.2.2.2.2.2.2.2)))) else (some (a0.1, a0.2.1, a0.2.2.1, a0.2.2.2.1, a0.2.2.2.2.1, a0.2.2.2.2.2.1, a0.2.2.2.2.2.2.1, a0.2.2.2.2.2.2.2)))
theorem Q19.spec {a0 : Int × Int × Int × Int × Int × Int × Int × Int}  {r : (Int × Int × Int × Int × Int × Int × Int × Int)} (H : Q19.f a0 = some r) :
  Spec Tryz.prog 38 [.agg #[.int .i64 a0.1, .int .i64 a0.2.1, .int .i64 a0.2.2.1, .int .i64 a0.2.2.2.1, .int .i64 a0.2.2.2.2.1, .int .i64 a0.2.2.2.2.2.1, .int .i64 a0.2.2.2.2.2.2.1, .int .i64 a0.2.2.2.2.2.2.2]] [] [] (fun v l => v = .agg #[.int .i64 r.1, .int .i64 r.2.1, .int .i64 r.2.2.1, .int .i64 r.2.2.2.1, .int .i64 r.2.2.2.2.1, .int .i64 r.2.2.2.2.2.1, .int .i64 r.2.2.2.2.2.2.1, .int .i64 r.2.2.2.2.2.2.2] ∧ l = []) := by
 refine Spec.enter Tryz.func38 rfl (by kernel_rfl) (by kernel_rfl) fun w0 F0 h0 => ?_
 unfold Q19.f at H
 refine J.seq (J.region ?_)
 refine RJ.op rfl rfl (Z2 rfl rfl h0) ?_
 rintro _ w1 ⟨b1, rfl, h1⟩
 replace h1 : St w0 F0 [Zh b1 23 [.int .i64 a0.1, .int .i64 a0.2.1, .int .i64 a0.2.2.1, .int .i64 a0.2.2.2.1, .int .i64 a0.2.2.2.2.1, .int .i64 a0.2.2.2.2.2.1, .int .i64 a0.2.2.2.2.2.2.1, .int .i64 a0.2.2.2.2.2.2.2]] _ _ := h1
 refine RJ.op rfl rfl (Ye Za rfl rfl h1) ?_
 rintro _ w2 ⟨b2, rfl, h2⟩
 replace h2 : St w0 F0 [Zh b2 23 [.int .i64 0, .int .i64 0, .int .i64 0, .int .i64 0, .int .i64 0, .int .i64 0, .int .i64 0, .int .i64 0], _] _ _ := h2
 refine RJ.fin [(1, .pointer (some ⟨b1, 0, none⟩)), (2, .pointer (some ⟨b2, 0, none⟩))] rfl (J.seq (J.seq (J.region ?_)))
 refine RJ.q rfl rfl (Zc Za 1 h2.wht rfl rfl rfl rfl rfl) ?_
 obtain ⟨r1, q1, H⟩ := Zj H
 refine RJ.op rfl rfl (Zd [] (Q21.spec q1) rfl rfl rfl h2 rfl Zm) ?_
 rintro _ w3 ⟨_, ⟨rfl, rfl⟩, h3⟩
 replace h3 : St w0 F0 [_, _] _ _ := h3
 refine RJ.fin [(1, _), (2, _), (4, .bool r1)] rfl (J.cond rfl (fun c1 => ?_) (fun c1 => ?_))
 ·replace H := Zi c1 H
  obtain ⟨r2, q2, H⟩ := Zj H
  obtain ⟨r3, q3, H⟩ := Zj H
  refine J.midS (fun env w => env = [(1, .pointer (some ⟨b1, 0, none⟩)), (2, .pointer (some ⟨b2, 0, none⟩))] ∧ St w0 F0 [Zh b1 23 [.int .i64 a0.1, .int .i64 (if r3 > (if r2 > (64 : Int) then r2 else (64 : Int)) then r3 else (if r2 > (64 : Int) then r2 else (64 : Int))), .int .i64 a0.2.2.1, .int .i64 a0.2.2.2.1, .int .i64 a0.2.2.2.2.1, .int .i64 a0.2.2.2.2.2.1, .int .i64 a0.2.2.2.2.2.2.1, .int .i64 a0.2.2.2.2.2.2.2], Zh b2 23 [.int .i64 0, .int .i64 0, .int .i64 0, .int .i64 0, .int .i64 0, .int .i64 0, .int .i64 0, .int .i64 0]] [] w) ?_ ?_
  ·refine J.heldSt mix (h3.only [0] rfl) ?_
   have h7 := h3.drew
   refine HJ.pick [0, 2] (i := 0) rfl rfl rfl rfl ((Zs ?_ (Zs ?_ Z4)))
   ·refine HS.op (i := 0) rfl rfl rfl (OpT.ofq (Zc Za 1 h7.wht rfl rfl rfl rfl rfl)) ?_
    rintro _ _ ⟨rfl, rfl⟩
    replace h7 : St w0 F0 [_, _] _ _ := h7
    refine ⟨⟨[_], (h7.only [1, 0] rfl)⟩, ?_⟩
    refine HJ.pick [1, 2] (i := 1) rfl rfl rfl rfl ((Zs ?_ (Zs ?_ Z4)))
    ·refine HS.op (i := 1) rfl rfl rfl (Zd [] (Q18.spec q2) rfl rfl rfl h7 rfl Zm) ?_
     rintro _ w10 ⟨_, ⟨rfl, rfl⟩, h8⟩
     replace h8 : St w0 F0 [_, _] _ _ := h8
     refine ⟨⟨[_], (h8.only [1, 0] rfl)⟩, ?_⟩
     refine HJ.op (i := 2) rfl rfl rfl rfl rfl (OpT.ofq (Zc Za 1 h8.wht rfl rfl rfl rfl rfl)) ?_
     rintro _ _ ⟨rfl, rfl⟩
     replace h8 : St w0 F0 [_, _] _ _ := h8
     refine ⟨⟨[_], (h8.only [1, 0] rfl)⟩, ?_⟩
     refine HJ.op (i := 3) rfl rfl rfl rfl rfl (Zd [] (Q20.spec q3) rfl rfl rfl h8 rfl Zm) ?_
     rintro _ w12 ⟨_, ⟨rfl, rfl⟩, h9⟩
     replace h9 : St w0 F0 [_, _] _ _ := h9
     refine ⟨⟨[_], (h9.only [1, 0] rfl)⟩, ?_⟩
     refine HJ.q (i := 4) rfl rfl rfl rfl rfl rfl (Zay rfl rfl rfl rfl) (HJ.run Za rfl [5] rfl (HJ.op (i := 6) rfl rfl rfl rfl rfl (Zt Za 1 rfl h9 rfl rfl rfl rfl rfl rfl rfl) ?_))
     intro _ w13 h10
     replace h10 : St w0 F0 [Zh b1 23 [.int .i64 a0.1, .int .i64 (if r3 > (if r2 > (64 : Int) then r2 else (64 : Int)) then r3 else (if r2 > (64 : Int) then r2 else (64 : Int))), .int .i64 a0.2.2.1, .int .i64 a0.2.2.2.1, .int .i64 a0.2.2.2.2.1, .int .i64 a0.2.2.2.2.2.1, .int .i64 a0.2.2.2.2.2.2.1, .int .i64 a0.2.2.2.2.2.2.2], _] _ _ := h10
     refine ⟨⟨[_], h10⟩, ?_⟩
     refine HJ.fin [(1, .pointer (some ⟨b1, 0, none⟩)), (2, .pointer (some ⟨b2, 0, none⟩))] rfl rfl ?_
     exact Zq ⟨rfl, ((h10.only [0, 0] rfl).rds [] rfl)⟩
    ·refine HS.op (i := 2) rfl rfl rfl (OpT.ofq (Zc Za 1 h7.wht rfl rfl rfl rfl rfl)) ?_
     rintro _ _ ⟨rfl, rfl⟩
     replace h7 : St w0 F0 [_, _] _ _ := h7
     refine ⟨⟨[_], (h7.only [1, 0] rfl)⟩, ?_⟩
     refine HJ.op (i := 1) rfl rfl rfl rfl rfl (Zd [] (Q18.spec q2) rfl rfl rfl h7 rfl Zm) ?_
     rintro _ w15 ⟨_, ⟨rfl, rfl⟩, h11⟩
     replace h11 : St w0 F0 [_, _] _ _ := h11
     refine ⟨⟨[_], (h11.only [1, 0] rfl)⟩, ?_⟩
     refine HJ.op (i := 3) rfl rfl rfl rfl rfl (Zd [] (Q20.spec q3) rfl rfl rfl h11 rfl Zm) ?_
     rintro _ w16 ⟨_, ⟨rfl, rfl⟩, h12⟩
     replace h12 : St w0 F0 [_, _] _ _ := h12
     refine ⟨⟨[_], (h12.only [1, 0] rfl)⟩, ?_⟩
     refine HJ.q (i := 4) rfl rfl rfl rfl rfl rfl (Zay rfl rfl rfl rfl) (HJ.run Za rfl [5] rfl (HJ.op (i := 6) rfl rfl rfl rfl rfl (Zt Za 1 rfl h12 rfl rfl rfl rfl rfl rfl rfl) ?_))
     intro _ w17 h13
     replace h13 : St w0 F0 [Zh b1 23 [.int .i64 a0.1, .int .i64 (if r3 > (if r2 > (64 : Int) then r2 else (64 : Int)) then r3 else (if r2 > (64 : Int) then r2 else (64 : Int))), .int .i64 a0.2.2.1, .int .i64 a0.2.2.2.1, .int .i64 a0.2.2.2.2.1, .int .i64 a0.2.2.2.2.2.1, .int .i64 a0.2.2.2.2.2.2.1, .int .i64 a0.2.2.2.2.2.2.2], _] _ _ := h13
     refine ⟨⟨[_], h13⟩, ?_⟩
     refine HJ.fin [(1, .pointer (some ⟨b1, 0, none⟩)), (2, .pointer (some ⟨b2, 0, none⟩))] rfl rfl ?_
     exact Zq ⟨rfl, ((h13.only [0, 0] rfl).rds [] rfl)⟩
   ·refine HS.op (i := 2) rfl rfl rfl (OpT.ofq (Zc Za 1 h7.wht rfl rfl rfl rfl rfl)) ?_
    rintro _ _ ⟨rfl, rfl⟩
    replace h7 : St w0 F0 [_, _] _ _ := h7
    refine ⟨⟨[_], (h7.only [1, 0] rfl)⟩, ?_⟩
    refine HJ.op (i := 0) rfl rfl rfl rfl rfl (OpT.ofq (Zc Za 1 h7.wht rfl rfl rfl rfl rfl)) ?_
    rintro _ _ ⟨rfl, rfl⟩
    replace h7 : St w0 F0 [_, _] _ _ := h7
    refine ⟨⟨[_], (h7.only [1, 0] rfl)⟩, ?_⟩
    refine HJ.op (i := 1) rfl rfl rfl rfl rfl (Zd [] (Q18.spec q2) rfl rfl rfl h7 rfl Zm) ?_
    rintro _ w20 ⟨_, ⟨rfl, rfl⟩, h14⟩
    replace h14 : St w0 F0 [_, _] _ _ := h14
    refine ⟨⟨[_], (h14.only [1, 0] rfl)⟩, ?_⟩
    refine HJ.op (i := 3) rfl rfl rfl rfl rfl (Zd [] (Q20.spec q3) rfl rfl rfl h14 rfl Zm) ?_
    rintro _ w21 ⟨_, ⟨rfl, rfl⟩, h15⟩
    replace h15 : St w0 F0 [_, _] _ _ := h15
    refine ⟨⟨[_], (h15.only [1, 0] rfl)⟩, ?_⟩
    refine HJ.q (i := 4) rfl rfl rfl rfl rfl rfl (Zay rfl rfl rfl rfl) (HJ.run Za rfl [5] rfl (HJ.op (i := 6) rfl rfl rfl rfl rfl (Zt Za 1 rfl h15 rfl rfl rfl rfl rfl rfl rfl) ?_))
    intro _ w22 h16
    replace h16 : St w0 F0 [Zh b1 23 [.int .i64 a0.1, .int .i64 (if r3 > (if r2 > (64 : Int) then r2 else (64 : Int)) then r3 else (if r2 > (64 : Int) then r2 else (64 : Int))), .int .i64 a0.2.2.1, .int .i64 a0.2.2.2.1, .int .i64 a0.2.2.2.2.1, .int .i64 a0.2.2.2.2.2.1, .int .i64 a0.2.2.2.2.2.2.1, .int .i64 a0.2.2.2.2.2.2.2], _] _ _ := h16
    refine ⟨⟨[_], h16⟩, ?_⟩
    refine HJ.fin [(1, .pointer (some ⟨b1, 0, none⟩)), (2, .pointer (some ⟨b2, 0, none⟩))] rfl rfl ?_
    exact Zq ⟨rfl, ((h16.only [0, 0] rfl).rds [] rfl)⟩
  rintro env w23 ⟨rfl, h17⟩
  refine J.seq (J.region ?_)
  refine RJ.q rfl rfl (Zc Za 0 h17.wht rfl rfl rfl rfl rfl) (RJ.op rfl rfl (Zt Za 1 rfl h17 rfl rfl rfl rfl rfl rfl rfl) ?_)
  intro _ w24 h18
  replace h18 : St w0 F0 [Zh b2 23 [.int .i64 a0.1, .int .i64 (if r3 > (if r2 > (64 : Int) then r2 else (64 : Int)) then r3 else (if r2 > (64 : Int) then r2 else (64 : Int))), .int .i64 a0.2.2.1, .int .i64 a0.2.2.2.1, .int .i64 a0.2.2.2.2.1, .int .i64 a0.2.2.2.2.2.1, .int .i64 a0.2.2.2.2.2.2.1, .int .i64 a0.2.2.2.2.2.2.2], Zh b1 23 [.int .i64 a0.1, .int .i64 (if r3 > (if r2 > (64 : Int) then r2 else (64 : Int)) then r3 else (if r2 > (64 : Int) then r2 else (64 : Int))), .int .i64 a0.2.2.1, .int .i64 a0.2.2.2.1, .int .i64 a0.2.2.2.2.1, .int .i64 a0.2.2.2.2.2.1, .int .i64 a0.2.2.2.2.2.2.1, .int .i64 a0.2.2.2.2.2.2.2]] _ _ := h18
  refine RJ.fin [(2, _)] rfl (J.ret ?_)
  obtain rfl := Option.some.inj H
  exact ⟨_, _, _, (Z6 rfl (Z8 (RV.cell Za 0 h18 rfl rfl rfl rfl) Yr) rfl), ⟨rfl, rfl⟩, h18.only [] rfl⟩
 replace H := Zg c1 H
 refine J.skip (J.seq (J.region ?_))
 refine RJ.q rfl rfl (Zc Za 1 h3.wht rfl rfl rfl rfl rfl) (RJ.op rfl rfl (Zt Za 0 rfl h3 rfl rfl rfl rfl rfl rfl rfl) ?_)
 intro _ w25 h19
 replace h19 : St w0 F0 [Zh b2 23 [.int .i64 a0.1, .int .i64 a0.2.1, .int .i64 a0.2.2.1, .int .i64 a0.2.2.2.1, .int .i64 a0.2.2.2.2.1, .int .i64 a0.2.2.2.2.2.1, .int .i64 a0.2.2.2.2.2.2.1, .int .i64 a0.2.2.2.2.2.2.2], _] _ _ := h19
 refine RJ.fin [(2, _)] rfl (J.ret ?_)
 obtain rfl := Option.some.inj H
 exact ⟨_, _, _, (Z6 rfl (Z8 (RV.cell Za 0 h19 rfl rfl rfl rfl) Yr) rfl), ⟨rfl, rfl⟩, h19.only [] rfl⟩

def Q17.f (a0 : Int × Int × Int × Int × Int × Int × Int × Int) : Option (Int) := (Q21.f (a0.1, a0.2.1, a0.2.2.1, a0.2.2.2.1, a0.2.2.2.2.1, a0.2.2.2.2.2.1, a0.2.2.2.2.2.2.1, a0.2.2.2.2.2.2.2)).bind fun r1 => (if r1 = true then (if (decide (5 ≤ a0.1)) = true then (if (decide (a0.1 ≤ 65536)) = true then (if (decide (8 ≤ a0.2.2.1)) = true then (if (!(decide (a0.2.2.1 ≤ 64))) = true then (some 2) else (if (decide (65536 < a0.2.1)) = true then (some 2) else ((Q19.f (a0.1, a0.2.1, a0.2.2.1, a0.2.2.2.1, a0.2.2.2.2.1, a0.2.2.2.2.2.1, a0.2.2.2.2.2.2.1, a0.2.2.2.2.2.2.2)).bind fun r2 => (if (decide (a0.2.1 < r2.2.1)) = true then (some 2) else (some 0))))) else (some 2)) else (some 2)) else (some 2)) else (some 2))
theorem Q17.spec {a0 : Int × Int × Int × Int × Int × Int × Int × Int}  {r : Int} (H : Q17.f a0 = some r) :
  Spec Tryz.prog 15 [.agg #[.int .i64 a0.1, .int .i64 a0.2.1, .int .i64 a0.2.2.1, .int .i64 a0.2.2.2.1, .int .i64 a0.2.2.2.2.1, .int .i64 a0.2.2.2.2.2.1, .int .i64 a0.2.2.2.2.2.2.1, .int .i64 a0.2.2.2.2.2.2.2]] [] [] (fun v l => v = .int .i64 r ∧ l = []) := by
 refine Spec.enter Tryz.func15 rfl (by kernel_rfl) (by kernel_rfl) fun w0 F0 h0 => ?_
 unfold Q17.f at H
 refine J.seq (J.region ?_)
 refine RJ.op rfl rfl (Z2 rfl rfl h0) ?_
 rintro _ w1 ⟨b1, rfl, h1⟩
 replace h1 : St w0 F0 [Zh b1 23 [.int .i64 a0.1, .int .i64 a0.2.1, .int .i64 a0.2.2.1, .int .i64 a0.2.2.2.1, .int .i64 a0.2.2.2.2.1, .int .i64 a0.2.2.2.2.2.1, .int .i64 a0.2.2.2.2.2.2.1, .int .i64 a0.2.2.2.2.2.2.2]] _ _ := h1
 refine RJ.run Za 1 rfl (RJ.fin [(1, .pointer (some ⟨b1, 0, none⟩))] rfl (J.seq (J.region ?_)))
 refine RJ.q rfl rfl (Zc Za 0 h1.wht rfl rfl rfl rfl rfl) ?_
 obtain ⟨r1, q1, H⟩ := Zj H
 refine RJ.op rfl rfl (Zd [] (Q21.spec q1) rfl rfl rfl h1 rfl Zm) ?_
 rintro _ w2 ⟨_, ⟨rfl, rfl⟩, h2⟩
 replace h2 : St w0 F0 [_] _ _ := h2
 refine RJ.run Za 1 rfl ?_
 rcases Bool.eq_false_or_eq_true r1 with c1 | c1
 ·replace H := Zi c1 H
  refine RJ.know (t := 6) rfl (congrArg Value.bool c1) (RJ.run Za 1 rfl (RJ.q rfl rfl (Zc Za 0 h2.wht rfl rfl rfl rfl rfl) (RJ.run Za 3 rfl ?_)))
  rcases Bool.eq_false_or_eq_true (decide (5 ≤ a0.1)) with c2 | c2
  ·replace H := Zi c2 H
   refine RJ.know (t := 11) rfl (congrArg Value.bool c2) (RJ.run Za 1 rfl (RJ.q rfl rfl (Zc Za 0 h2.wht rfl rfl rfl rfl rfl) (RJ.run Za 3 rfl ?_)))
   rcases Bool.eq_false_or_eq_true (decide (a0.1 ≤ 65536)) with c3 | c3
   ·replace H := Zi c3 H
    refine RJ.know (t := 16) rfl (congrArg Value.bool c3) (RJ.run Za 1 rfl (RJ.q rfl rfl (Zc Za 0 h2.wht rfl rfl rfl rfl rfl) (RJ.run Za 3 rfl ?_)))
    rcases Bool.eq_false_or_eq_true (decide (8 ≤ a0.2.2.1)) with c4 | c4
    ·replace H := Zi c4 H
     refine RJ.know (t := 21) rfl (congrArg Value.bool c4) (RJ.run Za 1 rfl (RJ.q rfl rfl (Zc Za 0 h2.wht rfl rfl rfl rfl rfl) (RJ.run Za 3 rfl (RJ.fin [(1, _), (3, .bool (decide (a0.2.2.1 ≤ 64)))] rfl (J.seq (J.seq ?_))))))
     refine J.heldSt mix h2 ?_
     have h3 := h2.drew
     refine HJ.run Za rfl [0, 1, 2] rfl ?_
     rcases Bool.eq_false_or_eq_true (!(decide (a0.2.2.1 ≤ 64))) with c5 | c5
     ·replace H := Zi c5 H
      refine HJ.know (t := 28) rfl (congrArg Value.bool c5) (HJ.run Za rfl [3, 4, 5, 6, 7, 8, 9, 10, 11, 12, 13, 14] rfl (HJ.fin [(40, .bool true)] rfl rfl (J.condT rfl (J.seq (J.region ?_)))))
      refine RJ.run Za 1 rfl (RJ.fin [(2, .int .i64 2)] rfl (J.ret ?_))
      obtain rfl := Option.some.inj H
      exact ⟨_, _, _, (Zb rfl), ⟨rfl, rfl⟩, h3.only [] rfl⟩
     replace H := Zg c5 H
     refine HJ.know (t := 28) rfl (congrArg Value.bool c5) (HJ.run Za rfl [3] rfl (HJ.q (i := 4) rfl rfl rfl rfl rfl rfl (Zc Za 0 (fun w e => e) rfl rfl rfl rfl rfl) ?_))
     refine HJ.run Za rfl [5, 6, 7] rfl ?_
     rcases Bool.eq_false_or_eq_true (decide (65536 < a0.2.1)) with c6 | c6
     ·replace H := Zi c6 H
      refine HJ.know (t := 33) rfl (congrArg Value.bool c6) (HJ.run Za rfl [8, 9, 10, 11, 12, 13, 14] rfl (HJ.fin [(40, .bool true)] rfl rfl (J.condT rfl (J.seq (J.region ?_)))))
      refine RJ.run Za 1 rfl (RJ.fin [(2, .int .i64 2)] rfl (J.ret ?_))
      obtain rfl := Option.some.inj H
      exact ⟨_, _, _, (Zb rfl), ⟨rfl, rfl⟩, h3.only [] rfl⟩
     replace H := Zg c6 H
     refine HJ.know (t := 33) rfl (congrArg Value.bool c6) (HJ.run Za rfl [8] rfl (HJ.q (i := 9) rfl rfl rfl rfl rfl rfl (Zc Za 0 (fun w e => e) rfl rfl rfl rfl rfl) ?_))
     refine HJ.q (i := 10) rfl rfl rfl rfl rfl rfl (Zc Za 0 (fun w e => e) rfl rfl rfl rfl rfl) ?_
     obtain ⟨r2, q2, H⟩ := Zj H
     refine HJ.op (i := 11) rfl rfl rfl rfl rfl (Zd [] (Q19.spec q2) rfl rfl rfl h3 rfl Zm) ?_
     rintro _ w3 ⟨_, ⟨rfl, rfl⟩, h4⟩
     replace h4 : St w0 F0 [_] _ _ := h4
     refine ⟨⟨[], h4⟩, ?_⟩
     refine HJ.run Za rfl [12, 13, 14] rfl (HJ.fin [(40, .bool (decide (a0.2.1 < r2.2.1)))] rfl rfl (J.cond rfl (fun c7 => ?_) (fun c7 => ?_)))
     ·replace H := Zi c7 H
      refine J.seq (J.region ?_)
      refine RJ.run Za 1 rfl (RJ.fin [(2, .int .i64 2)] rfl (J.ret ?_))
      obtain rfl := Option.some.inj H
      exact ⟨_, _, _, (Zb rfl), ⟨rfl, rfl⟩, h4.only [] rfl⟩
     replace H := Zg c7 H
     refine J.skip (J.seq (J.region ?_))
     refine RJ.run Za 1 rfl (RJ.fin [(2, .int .i64 0)] rfl (J.ret ?_))
     obtain rfl := Option.some.inj H
     exact ⟨_, _, _, (Zb rfl), ⟨rfl, rfl⟩, h4.only [] rfl⟩
    replace H := Zg c4 H
    refine RJ.know (t := 21) rfl (congrArg Value.bool c4) (RJ.run Za 5 rfl (RJ.fin [(1, _), (3, .bool false)] rfl (J.seq (J.seq ?_))))
    refine J.heldSt mix h2 ?_
    have h5 := h2.drew
    refine HJ.run Za rfl [0, 1, 2, 3, 4, 5, 6, 7, 8, 9, 10, 11, 12, 13, 14] rfl (HJ.fin [(40, .bool true)] rfl rfl (J.condT rfl (J.seq (J.region ?_))))
    refine RJ.run Za 1 rfl (RJ.fin [(2, .int .i64 2)] rfl (J.ret ?_))
    obtain rfl := Option.some.inj H
    exact ⟨_, _, _, (Zb rfl), ⟨rfl, rfl⟩, h5.only [] rfl⟩
   replace H := Zg c3 H
   refine RJ.know (t := 16) rfl (congrArg Value.bool c3) (RJ.run Za 10 rfl (RJ.fin [(1, _), (3, .bool false)] rfl (J.seq (J.seq ?_))))
   refine J.heldSt mix h2 ?_
   have h6 := h2.drew
   refine HJ.run Za rfl [0, 1, 2, 3, 4, 5, 6, 7, 8, 9, 10, 11, 12, 13, 14] rfl (HJ.fin [(40, .bool true)] rfl rfl (J.condT rfl (J.seq (J.region ?_))))
   refine RJ.run Za 1 rfl (RJ.fin [(2, .int .i64 2)] rfl (J.ret ?_))
   obtain rfl := Option.some.inj H
   exact ⟨_, _, _, (Zb rfl), ⟨rfl, rfl⟩, h6.only [] rfl⟩
  replace H := Zg c2 H
  refine RJ.know (t := 11) rfl (congrArg Value.bool c2) (RJ.run Za 15 rfl (RJ.fin [(1, _), (3, .bool false)] rfl (J.seq (J.seq ?_))))
  refine J.heldSt mix h2 ?_
  have h7 := h2.drew
  refine HJ.run Za rfl [0, 1, 2, 3, 4, 5, 6, 7, 8, 9, 10, 11, 12, 13, 14] rfl (HJ.fin [(40, .bool true)] rfl rfl (J.condT rfl (J.seq (J.region ?_))))
  refine RJ.run Za 1 rfl (RJ.fin [(2, .int .i64 2)] rfl (J.ret ?_))
  obtain rfl := Option.some.inj H
  exact ⟨_, _, _, (Zb rfl), ⟨rfl, rfl⟩, h7.only [] rfl⟩
 replace H := Zg c1 H
 refine RJ.know (t := 6) rfl (congrArg Value.bool c1) (RJ.run Za 20 rfl (RJ.fin [(1, _), (3, .bool false)] rfl (J.seq (J.seq ?_))))
 refine J.heldSt mix h2 ?_
 have h8 := h2.drew
 refine HJ.run Za rfl [0, 1, 2, 3, 4, 5, 6, 7, 8, 9, 10, 11, 12, 13, 14] rfl (HJ.fin [(40, .bool true)] rfl rfl (J.condT rfl (J.seq (J.region ?_))))
 refine RJ.run Za 1 rfl (RJ.fin [(2, .int .i64 2)] rfl (J.ret ?_))
 obtain rfl := Option.some.inj H
 exact ⟨_, _, _, (Zb rfl), ⟨rfl, rfl⟩, h8.only [] rfl⟩

def Q24.f  : Option ((List UInt8 × List UInt8 × Bool)) := some (([] : List UInt8), ([] : List UInt8), true)
theorem Q24.spec   {r : (List UInt8 × List UInt8 × Bool)} (H : Q24.f  = some r) :
  Spec Tryz.prog 17 [] [] [] (fun v l => v = .agg #[.string ⟨⟨r.1⟩⟩, .string ⟨⟨r.2.1⟩⟩, .bool r.2.2] ∧ l = []) := by
 refine Spec.enter Tryz.func17 rfl (by kernel_rfl) (by kernel_rfl) fun w0 F0 h0 => ?_
 unfold Q24.f at H
 refine J.seq (J.region ?_)
 refine RJ.op rfl rfl (Ye Za rfl rfl h0) ?_
 rintro _ w1 ⟨b1, rfl, h1⟩
 replace h1 : St w0 F0 [Zh b1 55 [.string ⟨⟨([] : List UInt8)⟩⟩, .string ⟨⟨([] : List UInt8)⟩⟩, .bool false]] _ _ := h1
 refine RJ.fin [(0, .pointer (some ⟨b1, 0, none⟩))] rfl (J.seq (J.region ?_))
 refine RJ.run Za 1 rfl (RJ.op rfl rfl (Zt Za 0 rfl h1 rfl rfl rfl rfl rfl rfl rfl) ?_)
 intro _ w2 h2
 replace h2 : St w0 F0 [Zh b1 55 [.string ⟨⟨([] : List UInt8)⟩⟩, .string ⟨⟨([] : List UInt8)⟩⟩, .bool true]] _ _ := h2
 refine RJ.fin [(0, _)] rfl (J.ret ?_)
 obtain rfl := Option.some.inj H
 exact ⟨_, _, _, (Z6 rfl (Z8 (RV.cell Za 0 h2 rfl rfl rfl rfl) Yr) rfl), ⟨rfl, rfl⟩, h2.only [] rfl⟩

def Q3.f (a0 : List UInt8) (a1 : List UInt8) : Option (Int) := some (Yo a0 a1)
theorem Q3.spec {a0 : List UInt8} {a1 : List UInt8}  {r : Int} (H : Q3.f a0 a1 = some r) :
  Spec Tryz.prog 99 [.string ⟨⟨a0⟩⟩, .string ⟨⟨a1⟩⟩] [] [] (fun v l => v = .int .i64 r ∧ l = []) := by
 refine Spec.enter Tryz.func99 rfl (by kernel_rfl) (by kernel_rfl) fun w0 F0 h0 => ?_
 unfold Q3.f at H
 refine J.seq (J.region ?_)
 refine RJ.run Za 1 rfl (RJ.fin [(0, .string ⟨⟨a0⟩⟩), (1, .string ⟨⟨a1⟩⟩)] rfl (J.seq (J.region ?_)))
 refine RJ.run Za 2 rfl (RJ.q rfl rfl (Ze1 Zgl rfl rfl rfl) (RJ.run Za 1 rfl (RJ.fin [(4, .int .i64 (Yo a0 a1))] rfl (J.ret ?_))))
 obtain rfl := Option.some.inj H
 exact ⟨_, _, _, (Zb rfl), ⟨rfl, rfl⟩, h0.only [] rfl⟩

def Q100.f (a0 : List UInt8) (a1 : List UInt8) : Option (Int) := (Q3.f a0 a1).bind fun r1 => (some r1)
theorem Q100.spec {a0 : List UInt8} {a1 : List UInt8}  {r : Int} (H : Q100.f a0 a1 = some r) :
  Spec Tryz.prog 96 [.string ⟨⟨a0⟩⟩, .string ⟨⟨a1⟩⟩] [] [] (fun v l => v = .int .i64 r ∧ l = []) := by
 refine Spec.enter Tryz.func96 rfl (by kernel_rfl) (by kernel_rfl) fun w0 F0 h0 => ?_
 unfold Q100.f at H
 refine J.seq (J.region ?_)
 refine RJ.run Za 1 rfl (RJ.fin [(0, .string ⟨⟨a0⟩⟩), (1, .string ⟨⟨a1⟩⟩)] rfl (J.seq (J.region ?_)))
 refine RJ.run Za 2 rfl ?_
 obtain ⟨r1, q1, H⟩ := Zj H
 refine RJ.op rfl rfl (Zd [] (Q3.spec q1) rfl rfl rfl h0 rfl Zm) ?_
 rintro _ w1 ⟨_, ⟨rfl, rfl⟩, h1⟩
 replace h1 : St w0 F0 [] _ _ := h1
 refine RJ.run Za 1 rfl (RJ.fin [(4, .int .i64 r1)] rfl (J.ret ?_))
 obtain rfl := Option.some.inj H
 exact ⟨_, _, _, (Zb rfl), ⟨rfl, rfl⟩, h1.only [] rfl⟩

def Q25.f (a0 : List UInt8) (a1 : List UInt8) : Option (Int) := (Q100.f a0 a1).bind fun r1 => (some r1)
theorem Q25.spec {a0 : List UInt8} {a1 : List UInt8}  {r : Int} (H : Q25.f a0 a1 = some r) :
  Spec Tryz.prog 87 [.string ⟨⟨a0⟩⟩, .string ⟨⟨a1⟩⟩] [] [] (fun v l => v = .int .i64 r ∧ l = []) := by
 refine Spec.enter Tryz.func87 rfl (by kernel_rfl) (by kernel_rfl) fun w0 F0 h0 => ?_
 unfold Q25.f at H
 refine J.seq (J.region ?_)
 refine RJ.run Za 1 rfl (RJ.fin [(0, .string ⟨⟨a0⟩⟩), (1, .string ⟨⟨a1⟩⟩)] rfl (J.seq (J.region ?_)))
 refine RJ.run Za 2 rfl ?_
 obtain ⟨r1, q1, H⟩ := Zj H
 refine RJ.op rfl rfl (Zd [] (Q100.spec q1) rfl rfl rfl h0 rfl Zm) ?_
 rintro _ w1 ⟨_, ⟨rfl, rfl⟩, h1⟩
 replace h1 : St w0 F0 [] _ _ := h1
 refine RJ.run Za 1 rfl (RJ.fin [(4, .int .i64 r1)] rfl (J.ret ?_))
 obtain rfl := Option.some.inj H
 exact ⟨_, _, _, (Zb rfl), ⟨rfl, rfl⟩, h1.only [] rfl⟩

def Q23.l0 : Nat → (List (List UInt8 × List UInt8)) → (Int) → Option (Bool)
 | 0, _, _ => none
 | k + 1, a0, x1 => if (decide (x1 < (w64 ((a0.length : Int) - 1)))) = true then (if 0 ≤ x1 ∧ x1 < (a0.length : Int) then (if 0 ≤ (w64 (x1 + 1)) ∧ (w64 (x1 + 1)) < (a0.length : Int) then ((Q25.f ((gt a0 x1).1) ((gt a0 (w64 (x1 + 1))).1)).bind fun r1 => (if (decide (0 ≤ r1)) = true then (some false) else (Q23.l0 k a0 (w64 (x1 + 1))))) else none) else none) else (some true)
def Q23.f (k : Nat) (a0 : List (List UInt8 × List UInt8)) : Option (Bool) := Q23.l0 k a0 0
theorem Q23.spec {k : Nat} {a0 : List (List UInt8 × List UInt8)} {A1 : Option Addr} {c_1 : Nat} {r : Bool} (H : Q23.f k a0 = some r) :
  Spec Tryz.prog 66 [.slice A1 a0.length c_1] [] [rdC 51 (.pair .str .str) a0 (.slice A1 a0.length c_1)] (fun v l => v = .bool r ∧ l = []) := by
 refine Spec.enter Tryz.func66 rfl (by kernel_rfl) (by kernel_rfl) fun w0 F0 h0 => ?_
 unfold Q23.f at H
 refine J.seq (J.region ?_)
 refine RJ.run Za 1 rfl (RJ.fin [(0, .slice A1 a0.length c_1)] rfl (J.seq (J.seq (J.region ?_))))
 refine RJ.run Za 4 rfl (RJ.fin [(0, _), (6, .int .i64 (w64 ((a0.length : Int) - 1))), (7, .int .i64 0)] rfl (J.block ?_))
 have h5 := ((h0.only [] rfl).rds [0] rfl)
 refine J.loop (fun kk env w => ∃ (x1 : Int), env = [(0, .slice A1 a0.length c_1), (6, .int .i64 (w64 ((a0.length : Int) - 1))), (7, .int .i64 x1)] ∧ St w0 F0 [] [rdC 51 (.pair .str .str) a0 (.slice A1 a0.length c_1)] w ∧ Q23.l0 kk a0 x1 = some r) (k := k) ⟨0, rfl, h5, H⟩ ?_
 rintro k1 env w1 ⟨x1, rfl, h1, H⟩
 cases k1 with
 | zero => exact nomatch (show none = some r from H)
 | succ k1 =>
  rw [Q23.l0] at H
  refine J.seq (J.region ?_)
  refine RJ.run Za 1 rfl (RJ.fin [(0, _), (6, _), (7, _), (8, .bool (decide (x1 < (w64 ((a0.length : Int) - 1)))))] rfl (J.seq (J.cond rfl (fun c1 => ?_) (fun c1 => ?_))))
  ·replace H := Zi c1 H
   refine J.skip (J.seq (J.block (J.seq (J.region ?_))))
   refine RJ.run Za 2 rfl (RJ.fin [(0, _), (3, .int .i64 x1), (6, _), (7, _)] rfl (J.seq (J.heldSt mix h1 ?_)))
   have h2 := h1.drew
   refine HJ.run Za rfl [0, 1, 5, 6, 7] rfl ?_
   obtain ⟨⟨p1, p2⟩, H⟩ := Zo H
   have e1 := Zy h2.wh (Gives.self 0 rfl) p1 p2
   refine HJ.q (i := 2) rfl rfl rfl rfl rfl rfl (Zk Za rfl rfl rfl rfl rfl e1 p1 p2) (HJ.run Za rfl [3] rfl (HJ.q (i := 4) rfl rfl rfl rfl rfl rfl (Ze (f := 0) Za rfl (fun w e => e) (Gives.self 0 rfl) p1 p2 rfl rfl rfl rfl rfl) ?_))
   obtain ⟨⟨p3, p4⟩, H⟩ := Zo H
   refine HJ.q (i := 8) rfl rfl rfl rfl rfl rfl (Zk Za rfl rfl rfl rfl rfl e1 p3 p4) (HJ.run Za rfl [9] rfl (HJ.q (i := 10) rfl rfl rfl rfl rfl rfl (Ze (f := 0) Za rfl (fun w e => e) (Gives.self 0 rfl) p3 p4 rfl rfl rfl rfl rfl) ?_))
   obtain ⟨r1, q1, H⟩ := Zj H
   refine HJ.op (i := 11) rfl rfl rfl rfl rfl (Zd [] (Q25.spec q1) rfl rfl rfl h2 rfl Zm) ?_
   rintro _ w2 ⟨_, ⟨rfl, rfl⟩, h3⟩
   replace h3 : St w0 F0 [] _ _ := h3
   refine ⟨⟨[], h3⟩, ?_⟩
   refine HJ.run Za rfl [12] rfl (HJ.fin [(0, _), (6, _), (7, _), (22, .bool (decide (0 ≤ r1)))] rfl rfl (J.cond rfl (fun c2 => ?_) (fun c2 => ?_)))
   ·replace H := Zi c2 H
    refine J.seq (J.region ?_)
    refine RJ.run Za 1 rfl (RJ.fin [(2, .bool false)] rfl (J.ret ?_))
    obtain rfl := Option.some.inj H
    exact ⟨_, _, _, (Zb rfl), ⟨rfl, rfl⟩, h3.only [] rfl⟩
   replace H := Zg c2 H
   refine J.skip (J.region (RJ.run Za 2 rfl (RJ.fin [(0, _), (6, _), (7, .int .i64 (w64 (x1 + 1)))] rfl ?_)))
   have h4 := ((h3.only [] rfl).rds [0] rfl)
   exact ⟨k1, by omega, (w64 (x1 + 1)), rfl, h4, H⟩
  replace H := Zg c1 H
  refine J.exit (J.seq (J.region ?_))
  refine RJ.run Za 1 rfl (RJ.fin [(2, .bool true)] rfl (J.ret ?_))
  obtain rfl := Option.some.inj H
  exact ⟨_, _, _, (Zb rfl), ⟨rfl, rfl⟩, h1.only [] rfl⟩

def Q27.f (a0 : Int × Int × Int × Int × Int × Int × Int × Int) (a1 : List UInt8) : Option (Bool) := if (decide (1 ≤ (a1.length : Int))) = true then (some (decide ((a1.length : Int) ≤ a0.2.2.2.2.2.2.1))) else (some false)
theorem Q27.spec {a0 : Int × Int × Int × Int × Int × Int × Int × Int} {a1 : List UInt8}  {r : Bool} (H : Q27.f a0 a1 = some r) :
  Spec Tryz.prog 69 [.agg #[.int .i64 a0.1, .int .i64 a0.2.1, .int .i64 a0.2.2.1, .int .i64 a0.2.2.2.1, .int .i64 a0.2.2.2.2.1, .int .i64 a0.2.2.2.2.2.1, .int .i64 a0.2.2.2.2.2.2.1, .int .i64 a0.2.2.2.2.2.2.2], .string ⟨⟨a1⟩⟩] [] [] (fun v l => v = .bool r ∧ l = []) := by
 refine Spec.enter Tryz.func69 rfl (by kernel_rfl) (by kernel_rfl) fun w0 F0 h0 => ?_
 unfold Q27.f at H
 refine J.seq (J.region ?_)
 refine RJ.op rfl rfl (Z2 rfl rfl h0) ?_
 rintro _ w1 ⟨b1, rfl, h1⟩
 replace h1 : St w0 F0 [Zh b1 23 [.int .i64 a0.1, .int .i64 a0.2.1, .int .i64 a0.2.2.1, .int .i64 a0.2.2.2.1, .int .i64 a0.2.2.2.2.1, .int .i64 a0.2.2.2.2.2.1, .int .i64 a0.2.2.2.2.2.2.1, .int .i64 a0.2.2.2.2.2.2.2]] _ _ := h1
 refine RJ.run Za 1 rfl (RJ.fin [(1, .string ⟨⟨a1⟩⟩), (2, .pointer (some ⟨b1, 0, none⟩))] rfl (J.seq (J.region ?_)))
 refine RJ.run Za 4 rfl ?_
 rcases Bool.eq_false_or_eq_true (decide (1 ≤ (a1.length : Int))) with c1 | c1
 ·replace H := Zi c1 H
  refine RJ.know (t := 8) rfl (congrArg Value.bool c1) (RJ.run Za 3 rfl (RJ.q rfl rfl (Zc Za 0 h1.wht rfl rfl rfl rfl rfl) (RJ.run Za 3 rfl (RJ.fin [(4, .bool (decide ((a1.length : Int) ≤ a0.2.2.2.2.2.2.1)))] rfl (J.ret ?_)))))
  obtain rfl := Option.some.inj H
  exact ⟨_, _, _, (Zb rfl), ⟨rfl, rfl⟩, h1.only [] rfl⟩
 replace H := Zg c1 H
 refine RJ.know (t := 8) rfl (congrArg Value.bool c1) (RJ.run Za 7 rfl (RJ.fin [(4, .bool false)] rfl (J.ret ?_)))
 obtain rfl := Option.some.inj H
 exact ⟨_, _, _, (Zb rfl), ⟨rfl, rfl⟩, h1.only [] rfl⟩

def Q26.f (a0 : List UInt8 × List UInt8 × Bool) (a1 : List UInt8) : Option (Bool) := if (!Op.bytesLess a1 a0.1) = true then (if a0.2.2 = true then (some true) else (some (Op.bytesLess a1 a0.2.1))) else (some false)
theorem Q26.spec {a0 : List UInt8 × List UInt8 × Bool} {a1 : List UInt8}  {r : Bool} (H : Q26.f a0 a1 = some r) :
  Spec Tryz.prog 70 [.agg #[.string ⟨⟨a0.1⟩⟩, .string ⟨⟨a0.2.1⟩⟩, .bool a0.2.2], .string ⟨⟨a1⟩⟩] [] [] (fun v l => v = .bool r ∧ l = []) := by
 refine Spec.enter Tryz.func70 rfl (by kernel_rfl) (by kernel_rfl) fun w0 F0 h0 => ?_
 unfold Q26.f at H
 refine J.seq (J.region ?_)
 refine RJ.op rfl rfl (Z2 rfl rfl h0) ?_
 rintro _ w1 ⟨b1, rfl, h1⟩
 replace h1 : St w0 F0 [Zh b1 55 [.string ⟨⟨a0.1⟩⟩, .string ⟨⟨a0.2.1⟩⟩, .bool a0.2.2]] _ _ := h1
 refine RJ.run Za 1 rfl (RJ.fin [(1, .string ⟨⟨a1⟩⟩), (2, .pointer (some ⟨b1, 0, none⟩))] rfl (J.seq (J.region ?_)))
 refine RJ.run Za 2 rfl (RJ.q rfl rfl (Zc Za 0 h1.wht rfl rfl rfl rfl rfl) (RJ.run Za 2 rfl ?_))
 rcases Bool.eq_false_or_eq_true (!Op.bytesLess a1 a0.1) with c1 | c1
 ·replace H := Zi c1 H
  refine RJ.know (t := 9) rfl (congrArg Value.bool c1) (RJ.run Za 1 rfl (RJ.q rfl rfl (Zc Za 0 h1.wht rfl rfl rfl rfl rfl) (RJ.run Za 1 rfl ?_)))
  rcases Bool.eq_false_or_eq_true a0.2.2 with c2 | c2
  ·replace H := Zi c2 H
   refine RJ.know (t := 12) rfl (congrArg Value.bool c2) (RJ.run Za 7 rfl (RJ.fin [(4, .bool true)] rfl (J.ret ?_)))
   obtain rfl := Option.some.inj H
   exact ⟨_, _, _, (Zb rfl), ⟨rfl, rfl⟩, h1.only [] rfl⟩
  replace H := Zg c2 H
  refine RJ.know (t := 12) rfl (congrArg Value.bool c2) (RJ.run Za 2 rfl (RJ.q rfl rfl (Zc Za 0 h1.wht rfl rfl rfl rfl rfl) (RJ.run Za 4 rfl (RJ.fin [(4, .bool (Op.bytesLess a1 a0.2.1))] rfl (J.ret ?_)))))
  obtain rfl := Option.some.inj H
  exact ⟨_, _, _, (Zb rfl), ⟨rfl, rfl⟩, h1.only [] rfl⟩
 replace H := Zg c1 H
 refine RJ.know (t := 9) rfl (congrArg Value.bool c1) (RJ.run Za 10 rfl (RJ.fin [(4, .bool false)] rfl (J.ret ?_)))
 obtain rfl := Option.some.inj H
 exact ⟨_, _, _, (Zb rfl), ⟨rfl, rfl⟩, h1.only [] rfl⟩

def Q34.f (a0 : List UInt8 × List UInt8) (a1 : Int × Int × Int × Int × Int × Int × Int × Int) (a2 : List UInt8 × List UInt8 × Bool) : Option (Bool) := (Q27.f (a1.1, a1.2.1, a1.2.2.1, a1.2.2.2.1, a1.2.2.2.2.1, a1.2.2.2.2.2.1, a1.2.2.2.2.2.2.1, a1.2.2.2.2.2.2.2) a0.1).bind fun r1 => (if (!r1) = true then (some true) else ((Q26.f (a2.1, a2.2.1, a2.2.2) a0.1).bind fun r2 => (if (!r2) = true then (some true) else (some (decide (a1.2.2.2.2.2.2.2 < (a0.2.length : Int)))))))
theorem Q34.spec {a0 : List UInt8 × List UInt8} {a1 : Int × Int × Int × Int × Int × Int × Int × Int} {a2 : List UInt8 × List UInt8 × Bool} {b1 : Nat} {b2 : Nat} {r : Bool} (H : Q34.f a0 a1 a2 = some r) :
  Spec Tryz.prog 68 [.agg #[.string ⟨⟨a0.1⟩⟩, .string ⟨⟨a0.2⟩⟩], .pointer (some ⟨b1, 0, none⟩), .pointer (some ⟨b2, 0, none⟩)] [Zh b1 23 [.int .i64 a1.1, .int .i64 a1.2.1, .int .i64 a1.2.2.1, .int .i64 a1.2.2.2.1, .int .i64 a1.2.2.2.2.1, .int .i64 a1.2.2.2.2.2.1, .int .i64 a1.2.2.2.2.2.2.1, .int .i64 a1.2.2.2.2.2.2.2], Zh b2 55 [.string ⟨⟨a2.1⟩⟩, .string ⟨⟨a2.2.1⟩⟩, .bool a2.2.2]] [] (fun v l => v = .bool r ∧ l = [Zh b1 23 [.int .i64 a1.1, .int .i64 a1.2.1, .int .i64 a1.2.2.1, .int .i64 a1.2.2.2.1, .int .i64 a1.2.2.2.2.1, .int .i64 a1.2.2.2.2.2.1, .int .i64 a1.2.2.2.2.2.2.1, .int .i64 a1.2.2.2.2.2.2.2], Zh b2 55 [.string ⟨⟨a2.1⟩⟩, .string ⟨⟨a2.2.1⟩⟩, .bool a2.2.2]]) := by
 refine Spec.enter Tryz.func68 rfl (by kernel_rfl) (by kernel_rfl) fun w0 F0 h0 => ?_
 unfold Q34.f at H
 refine J.seq (J.region ?_)
 refine RJ.op rfl rfl (Z2 rfl rfl h0) ?_
 rintro _ w1 ⟨b3, rfl, h1⟩
 replace h1 : St w0 F0 [Zh b3 51 [.string ⟨⟨a0.1⟩⟩, .string ⟨⟨a0.2⟩⟩], Zh b1 23 [.int .i64 a1.1, .int .i64 a1.2.1, .int .i64 a1.2.2.1, .int .i64 a1.2.2.2.1, .int .i64 a1.2.2.2.2.1, .int .i64 a1.2.2.2.2.2.1, .int .i64 a1.2.2.2.2.2.2.1, .int .i64 a1.2.2.2.2.2.2.2], Zh b2 55 [.string ⟨⟨a2.1⟩⟩, .string ⟨⟨a2.2.1⟩⟩, .bool a2.2.2]] _ _ := h1
 refine RJ.run Za 1 rfl (RJ.fin [(1, .pointer (some ⟨b1, 0, none⟩)), (2, .pointer (some ⟨b2, 0, none⟩)), (3, .pointer (some ⟨b3, 0, none⟩))] rfl (J.seq (J.region ?_)))
 refine RJ.q rfl rfl (Zc Za 1 h1.wht rfl rfl rfl rfl rfl) (RJ.run Za 1 rfl (RJ.q rfl rfl (Zc Za 0 h1.wht rfl rfl rfl rfl rfl) ?_))
 obtain ⟨r1, q1, H⟩ := Zj H
 refine RJ.op rfl rfl (Zd [] (Q27.spec q1) rfl rfl rfl h1 rfl Zm) ?_
 rintro _ w2 ⟨_, ⟨rfl, rfl⟩, h2⟩
 replace h2 : St w0 F0 [_, _, _] _ _ := h2
 refine RJ.run Za 2 rfl ?_
 rcases Bool.eq_false_or_eq_true (!r1) with c1 | c1
 ·replace H := Zi c1 H
  refine RJ.know (t := 10) rfl (congrArg Value.bool c1) (RJ.run Za 15 rfl (RJ.fin [(4, .bool true)] rfl (J.ret ?_)))
  obtain rfl := Option.some.inj H
  exact ⟨_, _, _, (Zb rfl), ⟨rfl, rfl⟩, h2.only [1, 1] rfl⟩
 replace H := Zg c1 H
 refine RJ.know (t := 10) rfl (congrArg Value.bool c1) (RJ.q rfl rfl (Zc Za 2 h2.wht rfl rfl rfl rfl rfl) (RJ.run Za 1 rfl (RJ.q rfl rfl (Zc Za 0 h2.wht rfl rfl rfl rfl rfl) ?_)))
 obtain ⟨r2, q2, H⟩ := Zj H
 refine RJ.op rfl rfl (Zd [] (Q26.spec q2) rfl rfl rfl h2 rfl Zm) ?_
 rintro _ w3 ⟨_, ⟨rfl, rfl⟩, h3⟩
 replace h3 : St w0 F0 [_, _, _] _ _ := h3
 refine RJ.run Za 3 rfl ?_
 rcases Bool.eq_false_or_eq_true (!r2) with c2 | c2
 ·replace H := Zi c2 H
  refine RJ.know (t := 17) rfl (congrArg Value.bool c2) (RJ.run Za 8 rfl (RJ.fin [(4, .bool true)] rfl (J.ret ?_)))
  obtain rfl := Option.some.inj H
  exact ⟨_, _, _, (Zb rfl), ⟨rfl, rfl⟩, h3.only [1, 1] rfl⟩
 replace H := Zg c2 H
 refine RJ.know (t := 17) rfl (congrArg Value.bool c2) (RJ.run Za 1 rfl (RJ.q rfl rfl (Zc Za 0 h3.wht rfl rfl rfl rfl rfl) (RJ.run Za 2 rfl (RJ.q rfl rfl (Zc Za 1 h3.wht rfl rfl rfl rfl rfl) (RJ.run Za 3 rfl (RJ.fin [(4, .bool (decide (a1.2.2.2.2.2.2.2 < (a0.2.length : Int))))] rfl (J.ret ?_)))))))
 obtain rfl := Option.some.inj H
 exact ⟨_, _, _, (Zb rfl), ⟨rfl, rfl⟩, h3.only [1, 1] rfl⟩

def Q45.l0 : Nat → (List (List UInt8 × List UInt8)) → (Int × Int × Int × Int × Int × Int × Int × Int) → (List UInt8 × List UInt8 × Bool) → (Int) → Option (Int)
 | 0, _, _, _, _ => none
 | k + 1, a0, a2, a3, x1 => if (decide (x1 < (a0.length : Int))) = true then (if 0 ≤ x1 ∧ x1 < (a0.length : Int) then ((Q34.f ((gt a0 x1).1, (gt a0 x1).2) (a2.1, a2.2.1, a2.2.2.1, a2.2.2.2.1, a2.2.2.2.2.1, a2.2.2.2.2.2.1, a2.2.2.2.2.2.2.1, a2.2.2.2.2.2.2.2) (a3.1, a3.2.1, a3.2.2)).bind fun r1 => (if r1 = true then (some x1) else (Q45.l0 k a0 a2 a3 (w64 (x1 + 1))))) else none) else (some (-1))
def Q45.f (k : Nat) (a0 : List (List UInt8 × List UInt8)) (a2 : Int × Int × Int × Int × Int × Int × Int × Int) (a3 : List UInt8 × List UInt8 × Bool) : Option (Int) := Q45.l0 k a0 a2 a3 0
theorem Q45.spec {k : Nat} {a0 : List (List UInt8 × List UInt8)} {a2 : Int × Int × Int × Int × Int × Int × Int × Int} {a3 : List UInt8 × List UInt8 × Bool} {A1 : Option Addr} {c_1 : Nat} {b1 : Nat} {b2 : Nat} {r : Int} (H : Q45.f k a0 a2 a3 = some r) :
  Spec Tryz.prog 88 [.slice A1 a0.length c_1, .func (.func 68) #[] #[.pointer (some ⟨b1, 0, none⟩), .pointer (some ⟨b2, 0, none⟩)]] [Zh b1 23 [.int .i64 a2.1, .int .i64 a2.2.1, .int .i64 a2.2.2.1, .int .i64 a2.2.2.2.1, .int .i64 a2.2.2.2.2.1, .int .i64 a2.2.2.2.2.2.1, .int .i64 a2.2.2.2.2.2.2.1, .int .i64 a2.2.2.2.2.2.2.2], Zh b2 55 [.string ⟨⟨a3.1⟩⟩, .string ⟨⟨a3.2.1⟩⟩, .bool a3.2.2]] [rdC 51 (.pair .str .str) a0 (.slice A1 a0.length c_1)] (fun v l => v = .int .i64 r ∧ l = [Zh b1 23 [.int .i64 a2.1, .int .i64 a2.2.1, .int .i64 a2.2.2.1, .int .i64 a2.2.2.2.1, .int .i64 a2.2.2.2.2.1, .int .i64 a2.2.2.2.2.2.1, .int .i64 a2.2.2.2.2.2.2.1, .int .i64 a2.2.2.2.2.2.2.2], Zh b2 55 [.string ⟨⟨a3.1⟩⟩, .string ⟨⟨a3.2.1⟩⟩, .bool a3.2.2]]) := by
 refine Spec.enter Tryz.func88 rfl (by kernel_rfl) (by kernel_rfl) fun w0 F0 h0 => ?_
 unfold Q45.f at H
 refine J.seq (J.region ?_)
 refine RJ.run Za 1 rfl (RJ.fin [(0, .slice A1 a0.length c_1), (1, .func (.func 68) #[] #[.pointer (some ⟨b1, 0, none⟩), .pointer (some ⟨b2, 0, none⟩)])] rfl ?_)
 refine J.seq (J.seq (J.region ?_))
 refine RJ.run Za 3 rfl (RJ.fin [(0, _), (1, _), (7, .int .i64 (a0.length : Int)), (8, .int .i64 0)] rfl (J.block ?_))
 have h4 := ((h0.only [0, 0] rfl).rds [0] rfl)
 refine J.loop (fun kk env w => ∃ (x1 : Int), env = [(0, .slice A1 a0.length c_1), (1, .func (.func 68) #[] #[.pointer (some ⟨b1, 0, none⟩), .pointer (some ⟨b2, 0, none⟩)]), (7, .int .i64 (a0.length : Int)), (8, .int .i64 x1)] ∧ St w0 F0 [Zh b1 23 [.int .i64 a2.1, .int .i64 a2.2.1, .int .i64 a2.2.2.1, .int .i64 a2.2.2.2.1, .int .i64 a2.2.2.2.2.1, .int .i64 a2.2.2.2.2.2.1, .int .i64 a2.2.2.2.2.2.2.1, .int .i64 a2.2.2.2.2.2.2.2], Zh b2 55 [.string ⟨⟨a3.1⟩⟩, .string ⟨⟨a3.2.1⟩⟩, .bool a3.2.2]] [rdC 51 (.pair .str .str) a0 (.slice A1 a0.length c_1)] w ∧ Q45.l0 kk a0 a2 a3 x1 = some r) (k := k) ⟨0, rfl, h4, H⟩ ?_
 rintro k1 env w1 ⟨x1, rfl, h1, H⟩
 cases k1 with
 | zero => exact nomatch (show none = some r from H)
 | succ k1 =>
  rw [Q45.l0] at H
  refine J.seq (J.region ?_)
  refine RJ.run Za 1 rfl (RJ.fin [(0, _), (1, _), (7, _), (8, _), (9, .bool (decide (x1 < (a0.length : Int))))] rfl (J.seq (J.cond rfl (fun c1 => ?_) (fun c1 => ?_))))
  ·replace H := Zi c1 H
   refine J.skip (J.seq (J.block (J.seq (J.region ?_))))
   refine RJ.run Za 2 rfl (RJ.fin [(0, _), (1, _), (5, .int .i64 x1), (7, _), (8, _)] rfl (J.seq (J.region ?_)))
   refine RJ.run Za 3 rfl ?_
   obtain ⟨⟨p1, p2⟩, H⟩ := Zo H
   have e1 := Zy h1.wh (Gives.self 2 rfl) p1 p2
   refine RJ.q rfl rfl (Zk Za rfl rfl rfl rfl rfl e1 p1 p2) (RJ.q rfl rfl (Ze (f := 0) Za rfl h1.wht (Gives.self 2 rfl) p1 p2 rfl rfl rfl rfl rfl) ?_)
   obtain ⟨r1, q1, H⟩ := Zj H
   refine RJ.op rfl rfl (Jw (vs := [.agg #[.string ⟨⟨(gt a0 x1).1⟩⟩, .string ⟨⟨(gt a0 x1).2⟩⟩]]) (cs := [.pointer (some ⟨b1, 0, none⟩), .pointer (some ⟨b2, 0, none⟩)]) [0, 0] (Q34.spec q1) rfl rfl rfl h1 rfl Zm) ?_
   rintro _ w2 ⟨_, ⟨rfl, rfl⟩, h2⟩
   replace h2 : St w0 F0 [_, _] _ _ := h2
   refine RJ.fin [(0, _), (1, _), (5, _), (7, _), (8, _), (16, .bool r1)] rfl (J.cond rfl (fun c2 => ?_) (fun c2 => ?_))
   ·replace H := Zi c2 H
    refine J.seq (J.region ?_)
    refine RJ.run Za 2 rfl (RJ.fin [(4, .int .i64 x1)] rfl (J.ret ?_))
    obtain rfl := Option.some.inj H
    exact ⟨_, _, _, (Zb rfl), ⟨rfl, rfl⟩, h2.only [0, 0] rfl⟩
   replace H := Zg c2 H
   refine J.skip (J.region (RJ.run Za 2 rfl (RJ.fin [(0, _), (1, _), (7, _), (8, .int .i64 (w64 (x1 + 1)))] rfl ?_)))
   have h3 := ((h2.only [0, 0] rfl).rds [0] rfl)
   exact ⟨k1, by omega, (w64 (x1 + 1)), rfl, h3, H⟩
  replace H := Zg c1 H
  refine J.exit (J.seq (J.region ?_))
  refine RJ.run Za 1 rfl (RJ.fin [(4, .int .i64 (-1))] rfl (J.ret ?_))
  obtain rfl := Option.some.inj H
  exact ⟨_, _, _, (Zb rfl), ⟨rfl, rfl⟩, h1.only [0, 0] rfl⟩

def Q39.f (k : Nat) (a0 : List (List UInt8 × List UInt8)) (a2 : Int × Int × Int × Int × Int × Int × Int × Int) (a3 : List UInt8 × List UInt8 × Bool) : Option (Bool) := (Q45.f k a0 (a2.1, a2.2.1, a2.2.2.1, a2.2.2.2.1, a2.2.2.2.2.1, a2.2.2.2.2.2.1, a2.2.2.2.2.2.2.1, a2.2.2.2.2.2.2.2) (a3.1, a3.2.1, a3.2.2)).bind fun r1 => (some (decide (0 ≤ r1)))
theorem Q39.spec {k : Nat} {a0 : List (List UInt8 × List UInt8)} {a2 : Int × Int × Int × Int × Int × Int × Int × Int} {a3 : List UInt8 × List UInt8 × Bool} {A1 : Option Addr} {c_1 : Nat} {b1 : Nat} {b2 : Nat} {r : Bool} (H : Q39.f k a0 a2 a3 = some r) :
  Spec Tryz.prog 67 [.slice A1 a0.length c_1, .func (.func 68) #[] #[.pointer (some ⟨b1, 0, none⟩), .pointer (some ⟨b2, 0, none⟩)]] [Zh b1 23 [.int .i64 a2.1, .int .i64 a2.2.1, .int .i64 a2.2.2.1, .int .i64 a2.2.2.2.1, .int .i64 a2.2.2.2.2.1, .int .i64 a2.2.2.2.2.2.1, .int .i64 a2.2.2.2.2.2.2.1, .int .i64 a2.2.2.2.2.2.2.2], Zh b2 55 [.string ⟨⟨a3.1⟩⟩, .string ⟨⟨a3.2.1⟩⟩, .bool a3.2.2]] [rdC 51 (.pair .str .str) a0 (.slice A1 a0.length c_1)] (fun v l => v = .bool r ∧ l = [Zh b1 23 [.int .i64 a2.1, .int .i64 a2.2.1, .int .i64 a2.2.2.1, .int .i64 a2.2.2.2.1, .int .i64 a2.2.2.2.2.1, .int .i64 a2.2.2.2.2.2.1, .int .i64 a2.2.2.2.2.2.2.1, .int .i64 a2.2.2.2.2.2.2.2], Zh b2 55 [.string ⟨⟨a3.1⟩⟩, .string ⟨⟨a3.2.1⟩⟩, .bool a3.2.2]]) := by
 refine Spec.enter Tryz.func67 rfl (by kernel_rfl) (by kernel_rfl) fun w0 F0 h0 => ?_
 unfold Q39.f at H
 refine J.seq (J.region ?_)
 refine RJ.run Za 1 rfl (RJ.fin [(0, .slice A1 a0.length c_1), (1, .func (.func 68) #[] #[.pointer (some ⟨b1, 0, none⟩), .pointer (some ⟨b2, 0, none⟩)])] rfl ?_)
 refine J.seq (J.region ?_)
 refine RJ.run Za 2 rfl ?_
 obtain ⟨r1, q1, H⟩ := Zj H
 refine RJ.op rfl rfl (Zd [0, 0] (Q45.spec q1) rfl rfl rfl h0 rfl (Zr (Gives.self 0 rfl) Zm)) ?_
 rintro _ w1 ⟨_, ⟨rfl, rfl⟩, h1⟩
 replace h1 : St w0 F0 [Zh b1 23 [.int .i64 a2.1, .int .i64 a2.2.1, .int .i64 a2.2.2.1, .int .i64 a2.2.2.2.1, .int .i64 a2.2.2.2.2.1, .int .i64 a2.2.2.2.2.2.1, .int .i64 a2.2.2.2.2.2.2.1, .int .i64 a2.2.2.2.2.2.2.2], Zh b2 55 [.string ⟨⟨a3.1⟩⟩, .string ⟨⟨a3.2.1⟩⟩, .bool a3.2.2]] _ _ := h1
 refine RJ.run Za 2 rfl (RJ.fin [(4, .bool (decide (0 ≤ r1)))] rfl (J.ret ?_))
 obtain rfl := Option.some.inj H
 exact ⟨_, _, _, (Zb rfl), ⟨rfl, rfl⟩, h1.only [0, 0] rfl⟩

def Q33.f (k : Nat) (a0 : Int × Int × Int × Int × Int × Int × Int × Int) (a1 : List UInt8 × List UInt8 × Bool) (a2 : Int × List (Int) × List (List UInt8) × (List (List UInt8 × Bool × List UInt8)) × (List (List UInt8 × List UInt8))) : Option (Bool) := if (decide (0 < (w64 ((w64 ((a2.2.1.length : Int) + (a2.2.2.1.length : Int))) + (a2.2.2.2.1.length : Int))))) = true then (some false) else (if (decide (a0.2.2.2.2.2.1 < (a2.2.2.2.2.length : Int))) = true then (some false) else ((Q23.f k a2.2.2.2.2).bind fun r1 => (if (!r1) = true then (some false) else ((Q39.f k a2.2.2.2.2 (a0.1, a0.2.1, a0.2.2.1, a0.2.2.2.1, a0.2.2.2.2.1, a0.2.2.2.2.2.1, a0.2.2.2.2.2.2.1, a0.2.2.2.2.2.2.2) (a1.1, a1.2.1, a1.2.2)).bind fun r2 => (some (!r2))))))
theorem Q33.spec {k : Nat} {a0 : Int × Int × Int × Int × Int × Int × Int × Int} {a1 : List UInt8 × List UInt8 × Bool} {a2 : Int × List (Int) × List (List UInt8) × (List (List UInt8 × Bool × List UInt8)) × (List (List UInt8 × List UInt8))} {A1 : Option Addr} {c_1 : Nat} {A2 : Option Addr} {c_2 : Nat} {A3 : Option Addr} {c_3 : Nat} {A4 : Option Addr} {c_4 : Nat} {r : Bool} (H : Q33.f k a0 a1 a2 = some r) :
  Spec Tryz.prog 39 [.agg #[.int .i64 a0.1, .int .i64 a0.2.1, .int .i64 a0.2.2.1, .int .i64 a0.2.2.2.1, .int .i64 a0.2.2.2.2.1, .int .i64 a0.2.2.2.2.2.1, .int .i64 a0.2.2.2.2.2.2.1, .int .i64 a0.2.2.2.2.2.2.2], .agg #[.string ⟨⟨a1.1⟩⟩, .string ⟨⟨a1.2.1⟩⟩, .bool a1.2.2], .agg #[.int .i64 a2.1, .slice A1 a2.2.1.length c_1, .slice A2 a2.2.2.1.length c_2, .slice A3 a2.2.2.2.1.length c_3, .slice A4 a2.2.2.2.2.length c_4]] [] [rdC 70 (.int .u32) a2.2.1 (.slice A1 a2.2.1.length c_1), rdC 9 .str a2.2.2.1 (.slice A2 a2.2.2.1.length c_2), rdC 49 (.pair .str (.pair .bool .str)) a2.2.2.2.1 (.slice A3 a2.2.2.2.1.length c_3), rdC 51 (.pair .str .str) a2.2.2.2.2 (.slice A4 a2.2.2.2.2.length c_4)] (fun v l => v = .bool r ∧ l = []) := by
 refine Spec.enter Tryz.func39 rfl (by kernel_rfl) (by kernel_rfl) fun w0 F0 h0 => ?_
 unfold Q33.f at H
 refine J.seq (J.region ?_)
 refine RJ.op rfl rfl (Z2 rfl rfl h0) ?_
 rintro _ w1 ⟨b1, rfl, h1⟩
 replace h1 : St w0 F0 [Zh b1 23 [.int .i64 a0.1, .int .i64 a0.2.1, .int .i64 a0.2.2.1, .int .i64 a0.2.2.2.1, .int .i64 a0.2.2.2.2.1, .int .i64 a0.2.2.2.2.2.1, .int .i64 a0.2.2.2.2.2.2.1, .int .i64 a0.2.2.2.2.2.2.2]] _ _ := h1
 refine RJ.op rfl rfl (Z2 rfl rfl h1) ?_
 rintro _ w2 ⟨b2, rfl, h2⟩
 replace h2 : St w0 F0 [Zh b2 55 [.string ⟨⟨a1.1⟩⟩, .string ⟨⟨a1.2.1⟩⟩, .bool a1.2.2], _] _ _ := h2
 refine RJ.op rfl rfl (Z2 rfl rfl h2) ?_
 rintro _ w3 ⟨b3, rfl, h3⟩
 replace h3 : St w0 F0 [Zh b3 29 [.int .i64 a2.1, .slice A1 a2.2.1.length c_1, .slice A2 a2.2.2.1.length c_2, .slice A3 a2.2.2.2.1.length c_3, .slice A4 a2.2.2.2.2.length c_4], _, _] _ _ := h3
 refine RJ.run Za 1 rfl (RJ.fin [(3, .pointer (some ⟨b1, 0, none⟩)), (4, .pointer (some ⟨b2, 0, none⟩)), (5, .pointer (some ⟨b3, 0, none⟩))] rfl (J.seq (J.seq (J.region ?_))))
 refine RJ.run Za 1 rfl (RJ.q rfl rfl (Zc Za 0 h3.wht rfl rfl rfl rfl rfl) (RJ.run Za 2 rfl (RJ.q rfl rfl (Zc Za 0 h3.wht rfl rfl rfl rfl rfl) (RJ.run Za 3 rfl (RJ.q rfl rfl (Zc Za 0 h3.wht rfl rfl rfl rfl rfl) (RJ.run Za 4 rfl ?_))))))
 rcases Bool.eq_false_or_eq_true (decide (0 < (w64 ((w64 ((a2.2.1.length : Int) + (a2.2.2.1.length : Int))) + (a2.2.2.2.1.length : Int))))) with c1 | c1
 ·replace H := Zi c1 H
  refine RJ.know (t := 19) rfl (congrArg Value.bool c1) (RJ.run Za 13 rfl (RJ.fin [(3, _), (4, _), (5, _), (32, .bool true)] rfl (J.condT rfl (J.seq (J.region ?_)))))
  refine RJ.run Za 1 rfl (RJ.fin [(6, .bool false)] rfl ?_)
  have h4 := h3.only [] rfl
  replace h4 : St w0 F0 [] _ _ := h4
  refine J.ret ?_
  obtain rfl := Option.some.inj H
  exact ⟨_, _, _, (Zb rfl), ⟨rfl, rfl⟩, h4.only [] rfl⟩
 replace H := Zg c1 H
 refine RJ.know (t := 19) rfl (congrArg Value.bool c1) (RJ.run Za 1 rfl (RJ.q rfl rfl (Zc Za 0 h3.wht rfl rfl rfl rfl rfl) (RJ.run Za 2 rfl (RJ.q rfl rfl (Zc Za 2 h3.wht rfl rfl rfl rfl rfl) (RJ.run Za 3 rfl ?_)))))
 rcases Bool.eq_false_or_eq_true (decide (a0.2.2.2.2.2.1 < (a2.2.2.2.2.length : Int))) with c2 | c2
 ·replace H := Zi c2 H
  refine RJ.know (t := 27) rfl (congrArg Value.bool c2) (RJ.run Za 5 rfl (RJ.fin [(3, _), (4, _), (5, _), (32, .bool true)] rfl (J.condT rfl (J.seq (J.region ?_)))))
  refine RJ.run Za 1 rfl (RJ.fin [(6, .bool false)] rfl ?_)
  have h5 := h3.only [] rfl
  replace h5 : St w0 F0 [] _ _ := h5
  refine J.ret ?_
  obtain rfl := Option.some.inj H
  exact ⟨_, _, _, (Zb rfl), ⟨rfl, rfl⟩, h5.only [] rfl⟩
 replace H := Zg c2 H
 refine RJ.know (t := 27) rfl (congrArg Value.bool c2) (RJ.run Za 1 rfl (RJ.q rfl rfl (Zc Za 0 h3.wht rfl rfl rfl rfl rfl) ?_))
 obtain ⟨r1, q1, H⟩ := Zj H
 refine RJ.op rfl rfl (Zd [] (Q23.spec q1) rfl rfl rfl h3 rfl (Zr (Gives.self 6 rfl) Zm)) ?_
 rintro _ w4 ⟨_, ⟨rfl, rfl⟩, h6⟩
 replace h6 : St w0 F0 [_, _, _] _ _ := h6
 refine RJ.run Za 2 rfl (RJ.fin [(3, _), (4, _), (5, _), (32, .bool (!r1))] rfl (J.cond rfl (fun c3 => ?_) (fun c3 => ?_)))
 ·replace H := Zi c3 H
  refine J.seq (J.region ?_)
  refine RJ.run Za 1 rfl (RJ.fin [(6, .bool false)] rfl ?_)
  have h7 := h6.only [] rfl
  replace h7 : St w0 F0 [] _ _ := h7
  refine J.ret ?_
  obtain rfl := Option.some.inj H
  exact ⟨_, _, _, (Zb rfl), ⟨rfl, rfl⟩, h7.only [] rfl⟩
 replace H := Zg c3 H
 refine J.skip (J.seq (J.region ?_))
 refine RJ.run Za 1 rfl (RJ.q rfl rfl (Zc Za 0 h6.wht rfl rfl rfl rfl rfl) (RJ.run Za 1 rfl ?_))
 obtain ⟨r2, q2, H⟩ := Zj H
 refine RJ.op rfl rfl (Zd [2, 1] (Q39.spec q2) rfl rfl rfl h6 rfl (Zr (Gives.self 4 rfl) Zm)) ?_
 rintro _ w5 ⟨_, ⟨rfl, rfl⟩, h8⟩
 replace h8 : St w0 F0 [_, _, _] _ _ := h8
 refine RJ.run Za 2 rfl (RJ.fin [(6, .bool (!r2))] rfl ?_)
 have h9 := h8.only [] rfl
 replace h9 : St w0 F0 [] _ _ := h9
 refine J.ret ?_
 obtain rfl := Option.some.inj H
 exact ⟨_, _, _, (Zb rfl), ⟨rfl, rfl⟩, h9.only [] rfl⟩

def Q36.f (a0 : List (Int)) : Option (List (Int)) := if (([] : List (Int)).length + a0.length) * 4 ≤ 140737488355328 then (some (([] : List (Int)) ++ a0)) else none
theorem Q36.spec {a0 : List (Int)} {A1 : Option Addr} {c_1 : Nat} {r : List (Int)} (H : Q36.f a0 = some r) :
  Spec Tryz.prog 89 [.slice A1 a0.length c_1] [] [rdC 70 (.int .u32) a0 (.slice A1 a0.length c_1)] (fun v l => ∃ (A_0 : Option Addr) (c_0 : Nat), v = .slice A_0 r.length c_0 ∧ l = [Zf 70 (.int .u32) r (.slice A_0 r.length c_0)]) := by
 refine Spec.enter Tryz.func89 rfl (by kernel_rfl) (by kernel_rfl) fun w0 F0 h0 => ?_
 unfold Q36.f at H
 refine J.seq (J.region ?_)
 refine RJ.run Za 1 rfl (RJ.fin [(0, .slice A1 a0.length c_1)] rfl (J.seq (J.seq (J.region ?_))))
 refine RJ.run Za 2 rfl (RJ.fin [(0, _), (4, .bool A1.isNone)] rfl (J.cond rfl (fun c1 => ?_) (fun c1 => ?_)))
 ·have e1 := h0.nilrow (Gives.self 0 rfl) (by simpa using c1)
  replace H : (some ([] : List (Int))) = some r := by rw [e1] at H; simpa using H
  refine J.seq (J.region ?_)
  refine RJ.run Za 1 rfl (RJ.fin [(2, .slice none ([] : List (Int)).length 0)] rfl (J.ret ?_))
  have h1 := h0.addNil 70 (.int .u32)
  obtain rfl := Option.some.inj H
  exact ⟨_, _, _, (Zb rfl), ⟨_, _, rfl, rfl⟩, h1.only [0] rfl⟩
 refine J.skip (J.seq (J.region ?_))
 refine RJ.op rfl rfl (Yd Za (.int .u32) rfl ([] : List (Int)) rfl h0 rfl rfl (by decide) rfl rfl rfl rfl rfl rfl rfl) ?_
 rintro _ w1 ⟨b1, rfl, h2⟩
 replace h2 : St w0 F0 [Zf 70 (.int .u32) ([] : List (Int)) (.slice (some ⟨b1, 0, none⟩) ([] : List (Int)).length 0)] _ _ := h2
 refine RJ.run Za 1 rfl ?_
 obtain ⟨p1, H⟩ := Zo H
 refine RJ.op rfl rfl (Z7 Za rfl 0 rfl h2 rfl (Gives.self 0 rfl) rfl rfl rfl rfl rfl rfl (by decide) (by decide) p1) ?_
 rintro _ w2 ⟨A2, c_2, rfl, h3⟩
 replace h3 : St w0 F0 [Zf 70 (.int .u32) (([] : List (Int)) ++ a0) (.slice A2 (([] : List (Int)) ++ a0).length c_2)] _ _ := h3
 refine RJ.run Za 1 rfl (RJ.fin [(2, .slice A2 (([] : List (Int)) ++ a0).length c_2)] rfl (J.ret ?_))
 obtain rfl := Option.some.inj H
 exact ⟨_, _, _, (Zb rfl), ⟨_, _, rfl, rfl⟩, h3.only [0] rfl⟩

def tb0 : List UInt8 := [0, 1, 2, 2, 3, 3, 3, 3, 4, 4, 4, 4, 4, 4, 4, 4, 5, 5, 5, 5, 5, 5, 5, 5, 5, 5, 5, 5, 5, 5, 5, 5, 6, 6, 6, 6, 6, 6, 6, 6, 6, 6, 6, 6, 6, 6, 6, 6, 6, 6, 6, 6, 6, 6, 6, 6, 6, 6, 6, 6, 6, 6, 6, 6, 7, 7, 7, 7, 7, 7, 7, 7, 7, 7, 7, 7, 7, 7, 7, 7, 7, 7, 7, 7, 7, 7, 7, 7, 7, 7, 7, 7, 7, 7, 7, 7, 7, 7, 7, 7, 7, 7, 7, 7, 7, 7, 7, 7, 7, 7, 7, 7, 7, 7, 7, 7, 7, 7, 7, 7, 7, 7, 7, 7, 7, 7, 7, 7, 8, 8, 8, 8, 8, 8, 8, 8, 8, 8, 8, 8, 8, 8, 8, 8, 8, 8, 8, 8, 8, 8, 8, 8, 8, 8, 8, 8, 8, 8, 8, 8, 8, 8, 8, 8, 8, 8, 8, 8, 8, 8, 8, 8, 8, 8, 8, 8, 8, 8, 8, 8, 8, 8, 8, 8, 8, 8, 8, 8, 8, 8, 8, 8, 8, 8, 8, 8, 8, 8, 8, 8, 8, 8, 8, 8, 8, 8, 8, 8, 8, 8, 8, 8, 8, 8, 8, 8, 8, 8, 8, 8, 8, 8, 8, 8, 8, 8, 8, 8, 8, 8, 8, 8, 8, 8, 8, 8, 8, 8, 8, 8, 8, 8, 8, 8, 8, 8, 8, 8, 8, 8, 8, 8, 8, 8, 8, 8]
def Q1.f (a0 : Int) : Option (Int) := if (decide (4294967296 ≤ a0)) = true then (if (decide (65536 ≤ (Int.fdiv a0 (2 ^ 32)))) = true then (if (decide (256 ≤ (Int.fdiv (Int.fdiv a0 (2 ^ 32)) (2 ^ 16)))) = true then (if 0 ≤ (IntKind.u8.wrap ((Int.fdiv (Int.fdiv (Int.fdiv a0 (2 ^ 32)) (2 ^ 16)) (2 ^ 8)))) ∧ (IntKind.u8.wrap ((Int.fdiv (Int.fdiv (Int.fdiv a0 (2 ^ 32)) (2 ^ 16)) (2 ^ 8)))) < (tb0.length : Int) then (some (w64 (56 + (w64 ((gtb tb0 (IntKind.u8.wrap ((Int.fdiv (Int.fdiv (Int.fdiv a0 (2 ^ 32)) (2 ^ 16)) (2 ^ 8)))))))))) else none) else (if 0 ≤ (IntKind.u8.wrap ((Int.fdiv (Int.fdiv a0 (2 ^ 32)) (2 ^ 16)))) ∧ (IntKind.u8.wrap ((Int.fdiv (Int.fdiv a0 (2 ^ 32)) (2 ^ 16)))) < (tb0.length : Int) then (some (w64 (48 + (w64 ((gtb tb0 (IntKind.u8.wrap ((Int.fdiv (Int.fdiv a0 (2 ^ 32)) (2 ^ 16)))))))))) else none)) else (if (decide (256 ≤ (Int.fdiv a0 (2 ^ 32)))) = true then (if 0 ≤ (IntKind.u8.wrap ((Int.fdiv (Int.fdiv a0 (2 ^ 32)) (2 ^ 8)))) ∧ (IntKind.u8.wrap ((Int.fdiv (Int.fdiv a0 (2 ^ 32)) (2 ^ 8)))) < (tb0.length : Int) then (some (w64 (40 + (w64 ((gtb tb0 (IntKind.u8.wrap ((Int.fdiv (Int.fdiv a0 (2 ^ 32)) (2 ^ 8)))))))))) else none) else (if 0 ≤ (IntKind.u8.wrap ((Int.fdiv a0 (2 ^ 32)))) ∧ (IntKind.u8.wrap ((Int.fdiv a0 (2 ^ 32)))) < (tb0.length : Int) then (some (w64 (32 + (w64 ((gtb tb0 (IntKind.u8.wrap ((Int.fdiv a0 (2 ^ 32)))))))))) else none))) else (if (decide (65536 ≤ a0)) = true then (if (decide (256 ≤ (Int.fdiv a0 (2 ^ 16)))) = true then (if 0 ≤ (IntKind.u8.wrap ((Int.fdiv (Int.fdiv a0 (2 ^ 16)) (2 ^ 8)))) ∧ (IntKind.u8.wrap ((Int.fdiv (Int.fdiv a0 (2 ^ 16)) (2 ^ 8)))) < (tb0.length : Int) then (some (w64 (24 + (w64 ((gtb tb0 (IntKind.u8.wrap ((Int.fdiv (Int.fdiv a0 (2 ^ 16)) (2 ^ 8)))))))))) else none) else (if 0 ≤ (IntKind.u8.wrap ((Int.fdiv a0 (2 ^ 16)))) ∧ (IntKind.u8.wrap ((Int.fdiv a0 (2 ^ 16)))) < (tb0.length : Int) then (some (w64 (16 + (w64 ((gtb tb0 (IntKind.u8.wrap ((Int.fdiv a0 (2 ^ 16)))))))))) else none)) else (if (decide (256 ≤ a0)) = true then (if 0 ≤ (IntKind.u8.wrap ((Int.fdiv a0 (2 ^ 8)))) ∧ (IntKind.u8.wrap ((Int.fdiv a0 (2 ^ 8)))) < (tb0.length : Int) then (some (w64 (8 + (w64 ((gtb tb0 (IntKind.u8.wrap ((Int.fdiv a0 (2 ^ 8)))))))))) else none) else (if 0 ≤ (IntKind.u8.wrap (a0)) ∧ (IntKind.u8.wrap (a0)) < (tb0.length : Int) then (some (w64 (0 + (w64 ((gtb tb0 (IntKind.u8.wrap (a0)))))))) else none)))
theorem Q1.spec {a0 : Int}  {r : Int} (H : Q1.f a0 = some r) :
  Spec Tryz.prog 110 [.int .u64 a0] [] [] (fun v l => v = .int .i64 r ∧ l = []) := by
 refine Spec.enter Tryz.func110 rfl (by kernel_rfl) (by kernel_rfl) fun w0 F0 h0 => ?_
 unfold Q1.f at H
 refine J.seq (J.region ?_)
 refine RJ.run Za 1 rfl (RJ.fin [(0, .int .u64 a0), (2, .int .i64 0)] rfl (J.seq (J.seq (J.region ?_))))
 refine RJ.run Za 2 rfl (RJ.fin [(0, _), (2, _), (4, .bool (decide (4294967296 ≤ a0)))] rfl (J.cond rfl (fun c1 => ?_) (fun c1 => ?_)))
 ·replace H := Zi c1 H
  refine J.seq (J.region ?_)
  refine RJ.run Za 3 rfl (RJ.fin [(0, .int .u64 (Int.fdiv a0 (2 ^ 32)))] rfl (J.region (RJ.run Za 1 rfl (RJ.fin [(0, _), (2, .int .i64 32)] rfl (J.seq (J.seq (J.region ?_)))))))
  refine RJ.run Za 2 rfl (RJ.fin [(0, _), (2, _), (8, .bool (decide (65536 ≤ (Int.fdiv a0 (2 ^ 32)))))] rfl (J.cond rfl (fun c2 => ?_) (fun c2 => ?_)))
  ·replace H := Zi c2 H
   refine J.seq (J.region ?_)
   refine RJ.run Za 3 rfl (RJ.fin [(0, .int .u64 (Int.fdiv (Int.fdiv a0 (2 ^ 32)) (2 ^ 16))), (2, _)] rfl (J.region (RJ.run Za 3 rfl (RJ.fin [(0, _), (2, .int .i64 48)] rfl (J.seq (J.seq (J.region ?_)))))))
   refine RJ.run Za 2 rfl (RJ.fin [(0, _), (2, _), (14, .bool (decide (256 ≤ (Int.fdiv (Int.fdiv a0 (2 ^ 32)) (2 ^ 16)))))] rfl (J.cond rfl (fun c3 => ?_) (fun c3 => ?_)))
   ·replace H := Zi c3 H
    refine J.seq (J.region ?_)
    refine RJ.run Za 3 rfl (RJ.fin [(0, .int .u64 (Int.fdiv (Int.fdiv (Int.fdiv a0 (2 ^ 32)) (2 ^ 16)) (2 ^ 8))), (2, _)] rfl (J.region (RJ.run Za 3 rfl (RJ.fin [(0, _), (2, .int .i64 56)] rfl (J.seq (J.region ?_))))))
    refine RJ.run Za 3 rfl ?_
    obtain ⟨⟨p1, p2⟩, H⟩ := Zo H
    refine RJ.q rfl rfl (Y7 Za rfl rfl rfl rfl p1 p2) (RJ.run Za 3 rfl (RJ.fin [(2, .int .i64 (w64 (56 + (w64 ((gtb tb0 (IntKind.u8.wrap ((Int.fdiv (Int.fdiv (Int.fdiv a0 (2 ^ 32)) (2 ^ 16)) (2 ^ 8))))))))))] rfl (J.ret ?_)))
    obtain rfl := Option.some.inj H
    exact ⟨_, _, _, (Zb rfl), ⟨rfl, rfl⟩, h0.only [] rfl⟩
   replace H := Zg c3 H
   refine J.skip (J.seq (J.region ?_))
   refine RJ.run Za 3 rfl ?_
   obtain ⟨⟨p3, p4⟩, H⟩ := Zo H
   refine RJ.q rfl rfl (Y7 Za rfl rfl rfl rfl p3 p4) (RJ.run Za 3 rfl (RJ.fin [(2, .int .i64 (w64 (48 + (w64 ((gtb tb0 (IntKind.u8.wrap ((Int.fdiv (Int.fdiv a0 (2 ^ 32)) (2 ^ 16))))))))))] rfl (J.ret ?_)))
   obtain rfl := Option.some.inj H
   exact ⟨_, _, _, (Zb rfl), ⟨rfl, rfl⟩, h0.only [] rfl⟩
  replace H := Zg c2 H
  refine J.skip (J.seq (J.seq (J.region ?_)))
  refine RJ.run Za 2 rfl (RJ.fin [(0, _), (2, _), (14, .bool (decide (256 ≤ (Int.fdiv a0 (2 ^ 32)))))] rfl (J.cond rfl (fun c4 => ?_) (fun c4 => ?_)))
  ·replace H := Zi c4 H
   refine J.seq (J.region ?_)
   refine RJ.run Za 3 rfl (RJ.fin [(0, .int .u64 (Int.fdiv (Int.fdiv a0 (2 ^ 32)) (2 ^ 8))), (2, _)] rfl (J.region (RJ.run Za 3 rfl (RJ.fin [(0, _), (2, .int .i64 40)] rfl (J.seq (J.region ?_))))))
   refine RJ.run Za 3 rfl ?_
   obtain ⟨⟨p5, p6⟩, H⟩ := Zo H
   refine RJ.q rfl rfl (Y7 Za rfl rfl rfl rfl p5 p6) (RJ.run Za 3 rfl (RJ.fin [(2, .int .i64 (w64 (40 + (w64 ((gtb tb0 (IntKind.u8.wrap ((Int.fdiv (Int.fdiv a0 (2 ^ 32)) (2 ^ 8))))))))))] rfl (J.ret ?_)))
   obtain rfl := Option.some.inj H
   exact ⟨_, _, _, (Zb rfl), ⟨rfl, rfl⟩, h0.only [] rfl⟩
  replace H := Zg c4 H
  refine J.skip (J.seq (J.region ?_))
  refine RJ.run Za 3 rfl ?_
  obtain ⟨⟨p7, p8⟩, H⟩ := Zo H
  refine RJ.q rfl rfl (Y7 Za rfl rfl rfl rfl p7 p8) (RJ.run Za 3 rfl (RJ.fin [(2, .int .i64 (w64 (32 + (w64 ((gtb tb0 (IntKind.u8.wrap ((Int.fdiv a0 (2 ^ 32))))))))))] rfl (J.ret ?_)))
  obtain rfl := Option.some.inj H
  exact ⟨_, _, _, (Zb rfl), ⟨rfl, rfl⟩, h0.only [] rfl⟩
 replace H := Zg c1 H
 refine J.skip (J.seq (J.seq (J.region ?_)))
 refine RJ.run Za 2 rfl (RJ.fin [(0, _), (2, _), (8, .bool (decide (65536 ≤ a0)))] rfl (J.cond rfl (fun c5 => ?_) (fun c5 => ?_)))
 ·replace H := Zi c5 H
  refine J.seq (J.region ?_)
  refine RJ.run Za 3 rfl (RJ.fin [(0, .int .u64 (Int.fdiv a0 (2 ^ 16))), (2, _)] rfl (J.region (RJ.run Za 3 rfl (RJ.fin [(0, _), (2, .int .i64 16)] rfl (J.seq (J.seq (J.region ?_)))))))
  refine RJ.run Za 2 rfl (RJ.fin [(0, _), (2, _), (14, .bool (decide (256 ≤ (Int.fdiv a0 (2 ^ 16)))))] rfl (J.cond rfl (fun c6 => ?_) (fun c6 => ?_)))
  ·replace H := Zi c6 H
   refine J.seq (J.region ?_)
   refine RJ.run Za 3 rfl (RJ.fin [(0, .int .u64 (Int.fdiv (Int.fdiv a0 (2 ^ 16)) (2 ^ 8))), (2, _)] rfl (J.region (RJ.run Za 3 rfl (RJ.fin [(0, _), (2, .int .i64 24)] rfl (J.seq (J.region ?_))))))
   refine RJ.run Za 3 rfl ?_
   obtain ⟨⟨p9, p10⟩, H⟩ := Zo H
   refine RJ.q rfl rfl (Y7 Za rfl rfl rfl rfl p9 p10) (RJ.run Za 3 rfl (RJ.fin [(2, .int .i64 (w64 (24 + (w64 ((gtb tb0 (IntKind.u8.wrap ((Int.fdiv (Int.fdiv a0 (2 ^ 16)) (2 ^ 8))))))))))] rfl (J.ret ?_)))
   obtain rfl := Option.some.inj H
   exact ⟨_, _, _, (Zb rfl), ⟨rfl, rfl⟩, h0.only [] rfl⟩
  replace H := Zg c6 H
  refine J.skip (J.seq (J.region ?_))
  refine RJ.run Za 3 rfl ?_
  obtain ⟨⟨p11, p12⟩, H⟩ := Zo H
  refine RJ.q rfl rfl (Y7 Za rfl rfl rfl rfl p11 p12) (RJ.run Za 3 rfl (RJ.fin [(2, .int .i64 (w64 (16 + (w64 ((gtb tb0 (IntKind.u8.wrap ((Int.fdiv a0 (2 ^ 16))))))))))] rfl (J.ret ?_)))
  obtain rfl := Option.some.inj H
  exact ⟨_, _, _, (Zb rfl), ⟨rfl, rfl⟩, h0.only [] rfl⟩
 replace H := Zg c5 H
 refine J.skip (J.seq (J.seq (J.region ?_)))
 refine RJ.run Za 2 rfl (RJ.fin [(0, _), (2, _), (14, .bool (decide (256 ≤ a0)))] rfl (J.cond rfl (fun c7 => ?_) (fun c7 => ?_)))
 ·replace H := Zi c7 H
  refine J.seq (J.region ?_)
  refine RJ.run Za 3 rfl (RJ.fin [(0, .int .u64 (Int.fdiv a0 (2 ^ 8))), (2, _)] rfl (J.region (RJ.run Za 3 rfl (RJ.fin [(0, _), (2, .int .i64 8)] rfl (J.seq (J.region ?_))))))
  refine RJ.run Za 3 rfl ?_
  obtain ⟨⟨p13, p14⟩, H⟩ := Zo H
  refine RJ.q rfl rfl (Y7 Za rfl rfl rfl rfl p13 p14) (RJ.run Za 3 rfl (RJ.fin [(2, .int .i64 (w64 (8 + (w64 ((gtb tb0 (IntKind.u8.wrap ((Int.fdiv a0 (2 ^ 8))))))))))] rfl (J.ret ?_)))
  obtain rfl := Option.some.inj H
  exact ⟨_, _, _, (Zb rfl), ⟨rfl, rfl⟩, h0.only [] rfl⟩
 replace H := Zg c7 H
 refine J.skip (J.seq (J.region ?_))
 refine RJ.run Za 3 rfl ?_
 obtain ⟨⟨p15, p16⟩, H⟩ := Zo H
 refine RJ.q rfl rfl (Y7 Za rfl rfl rfl rfl p15 p16) (RJ.run Za 3 rfl (RJ.fin [(2, .int .i64 (w64 (0 + (w64 ((gtb tb0 (IntKind.u8.wrap (a0))))))))] rfl (J.ret ?_)))
 obtain rfl := Option.some.inj H
 exact ⟨_, _, _, (Zb rfl), ⟨rfl, rfl⟩, h0.only [] rfl⟩

def Q0.f (a0 : Int) : Option (Int) := (Q1.f a0).bind fun r1 => (some r1)
theorem Q0.spec {a0 : Int}  {r : Int} (H : Q0.f a0 = some r) :
  Spec Tryz.prog 98 [.int .u64 a0] [] [] (fun v l => v = .int .i64 r ∧ l = []) := by
 refine Spec.enter Tryz.func98 rfl (by kernel_rfl) (by kernel_rfl) fun w0 F0 h0 => ?_
 unfold Q0.f at H
 refine J.seq (J.region ?_)
 refine RJ.run Za 1 rfl (RJ.fin [(0, .int .u64 a0)] rfl (J.seq (J.condF rfl (J.skip (J.seq (J.region ?_))))))
 refine RJ.run Za 1 rfl ?_
 obtain ⟨r1, q1, H⟩ := Zj H
 refine RJ.op rfl rfl (Zd [] (Q1.spec q1) rfl rfl rfl h0 rfl Zm) ?_
 rintro _ w1 ⟨_, ⟨rfl, rfl⟩, h1⟩
 replace h1 : St w0 F0 [] _ _ := h1
 refine RJ.run Za 1 rfl (RJ.fin [(2, .int .i64 r1)] rfl (J.ret ?_))
 obtain rfl := Option.some.inj H
 exact ⟨_, _, _, (Zb rfl), ⟨rfl, rfl⟩, h1.only [] rfl⟩

def Q5.f (a0 : Int) : Option (Bool) := some (!decide (a0 = a0))
theorem Q5.spec {a0 : Int}  {r : Bool} (H : Q5.f a0 = some r) :
  Spec Tryz.prog 117 [.int .u32 a0] [] [] (fun v l => v = .bool r ∧ l = []) := by
 refine Spec.enter Tryz.func117 rfl (by kernel_rfl) (by kernel_rfl) fun w0 F0 h0 => ?_
 unfold Q5.f at H
 refine J.seq (J.region ?_)
 refine RJ.run Za 1 rfl (RJ.fin [(0, .int .u32 a0)] rfl (J.seq (J.region ?_)))
 refine RJ.run Za 4 rfl (RJ.fin [(2, .bool (!decide (a0 = a0)))] rfl (J.ret ?_))
 obtain rfl := Option.some.inj H
 exact ⟨_, _, _, (Zb rfl), ⟨rfl, rfl⟩, h0.only [] rfl⟩

def Q4.f (a0 : Int) (a1 : Int) : Option (Bool) := (Q5.f a0).bind fun r1 => (if r1 = true then ((Q5.f a1).bind fun r2 => (if (!r2) = true then (some true) else (some (decide (a0 < a1))))) else (some (decide (a0 < a1))))
theorem Q4.spec {a0 : Int} {a1 : Int}  {r : Bool} (H : Q4.f a0 a1 = some r) :
  Spec Tryz.prog 106 [.int .u32 a0, .int .u32 a1] [] [] (fun v l => v = .bool r ∧ l = []) := by
 refine Spec.enter Tryz.func106 rfl (by kernel_rfl) (by kernel_rfl) fun w0 F0 h0 => ?_
 unfold Q4.f at H
 refine J.seq (J.region ?_)
 refine RJ.run Za 1 rfl (RJ.fin [(0, .int .u32 a0), (1, .int .u32 a1)] rfl (J.seq (J.region ?_)))
 refine RJ.run Za 1 rfl ?_
 obtain ⟨r1, q1, H⟩ := Zj H
 refine RJ.op rfl rfl (Zd [] (Q5.spec q1) rfl rfl rfl h0 rfl Zm) ?_
 rintro _ w1 ⟨_, ⟨rfl, rfl⟩, h1⟩
 replace h1 : St w0 F0 [] _ _ := h1
 refine RJ.run Za 1 rfl ?_
 rcases Bool.eq_false_or_eq_true r1 with c1 | c1
 ·replace H := Zi c1 H
  refine RJ.know (t := 7) rfl (congrArg Value.bool c1) (RJ.run Za 1 rfl ?_)
  obtain ⟨r2, q2, H⟩ := Zj H
  refine RJ.op rfl rfl (Zd [] (Q5.spec q2) rfl rfl rfl h1 rfl Zm) ?_
  rintro _ w2 ⟨_, ⟨rfl, rfl⟩, h2⟩
  replace h2 : St w0 F0 [] _ _ := h2
  refine RJ.run Za 3 rfl ?_
  rcases Bool.eq_false_or_eq_true (!r2) with c2 | c2
  ·replace H := Zi c2 H
   refine RJ.know (t := 12) rfl (congrArg Value.bool c2) (RJ.run Za 5 rfl (RJ.fin [(4, .bool true)] rfl (J.ret ?_)))
   obtain rfl := Option.some.inj H
   exact ⟨_, _, _, (Zb rfl), ⟨rfl, rfl⟩, h2.only [] rfl⟩
  replace H := Zg c2 H
  refine RJ.know (t := 12) rfl (congrArg Value.bool c2) (RJ.run Za 5 rfl (RJ.fin [(4, .bool (decide (a0 < a1)))] rfl (J.ret ?_)))
  obtain rfl := Option.some.inj H
  exact ⟨_, _, _, (Zb rfl), ⟨rfl, rfl⟩, h2.only [] rfl⟩
 replace H := Zg c1 H
 refine RJ.know (t := 7) rfl (congrArg Value.bool c1) (RJ.run Za 10 rfl (RJ.fin [(4, .bool (decide (a0 < a1)))] rfl (J.ret ?_)))
 obtain rfl := Option.some.inj H
 exact ⟨_, _, _, (Zb rfl), ⟨rfl, rfl⟩, h1.only [] rfl⟩

mutual
def Q53.l0 : Nat → (Int) → (Int) → (List (Int)) → (Int) → Option (List (Int))
 | 0, _, _, _, _ => none
 | k + 1, a1, a2, x1, x2 => if (decide (x2 < a2)) = true then (Q53.l1 k a1 a2 x2 x1 x2) else (some x1)
def Q53.l1 : Nat → (Int) → (Int) → (Int) → (List (Int)) → (Int) → Option (List (Int))
 | 0, _, _, _, _, _ => none
 | k + 1, a1, a2, x2, x3, x4 => if (decide (a1 < x4)) = true then (if 0 ≤ x4 ∧ x4 < (x3.length : Int) then (if 0 ≤ (w64 (x4 - 1)) ∧ (w64 (x4 - 1)) < (x3.length : Int) then ((Q4.f (gt x3 x4) (gt x3 (w64 (x4 - 1)))).bind fun r1 => (if r1 = true then (Q53.l1 k a1 a2 x2 ((x3.set x4.toNat (gt x3 (w64 (x4 - 1)))).set (w64 (x4 - 1)).toNat (gt x3 x4)) (w64 (x4 - 1))) else (Q53.l0 k a1 a2 x3 (w64 (x2 + 1))))) else none) else none) else (Q53.l0 k a1 a2 x3 (w64 (x2 + 1)))
end
def Q53.f (k : Nat) (a0 : List (Int)) (a1 : Int) (a2 : Int) : Option (List (Int)) := Q53.l0 k a1 a2 a0 (w64 (a1 + 1))
theorem Q53.spec {k : Nat} {a0 : List (Int)} {a1 : Int} {a2 : Int} {A1 : Option Addr} {c_1 : Nat} {r : List (Int)} (H : Q53.f k a0 a1 a2 = some r) :
  Spec Tryz.prog 100 [.slice A1 a0.length c_1, .int .i64 a1, .int .i64 a2] [Zf 70 (.int .u32) a0 (.slice A1 a0.length c_1)] [] (fun v l => v = .tuple #[] ∧ l = [Zf 70 (.int .u32) r (.slice A1 r.length c_1)] ∧ r.length = a0.length) := by
 refine Spec.enter Tryz.func100 rfl (by kernel_rfl) (by kernel_rfl) fun w0 F0 h0 => ?_
 unfold Q53.f at H
 refine J.seq (J.region ?_)
 refine RJ.run Za 3 rfl (RJ.fin [(0, .slice A1 a0.length c_1), (1, .int .i64 a1), (2, .int .i64 a2), (6, .int .i64 (w64 (a1 + 1)))] rfl (J.block ?_))
 have h17 := ((h0.only [0] rfl).rds [] rfl)
 refine J.loop (fun kk env w => ∃ (x1 : List (Int)) (x2 : Int), env = [(0, .slice A1 x1.length c_1), (1, .int .i64 a1), (2, .int .i64 a2), (6, .int .i64 x2)] ∧ St w0 F0 [Zf 70 (.int .u32) x1 (.slice A1 x1.length c_1)] [] w ∧ Q53.l0 kk a1 a2 x1 x2 = some r ∧ x1.length = a0.length) (k := k) ⟨a0, (w64 (a1 + 1)), rfl, h17, H, (rfl : a0.length = a0.length)⟩ ?_
 rintro k1 env w1 ⟨x1, x2, rfl, h1, H, e1⟩
 cases k1 with
 | zero => exact nomatch (show none = some r from H)
 | succ k1 =>
  rw [Q53.l0] at H
  refine J.seq (J.seq (J.region ?_))
  refine RJ.run Za 3 rfl (RJ.fin [(0, _), (1, _), (2, _), (6, _), (12, .bool (decide (x2 < a2)))] rfl (J.cond rfl (fun c1 => ?_) (fun c1 => ?_)))
  ·replace H := Zi c1 H
   refine J.skip (J.seq (J.block (J.seq (J.region ?_))))
   refine RJ.run Za 2 rfl (RJ.fin [(0, _), (1, _), (2, _), (6, _), (7, .int .i64 x2)] rfl (J.block ?_))
   have h16 := ((h1.only [0] rfl).rds [] rfl)
   refine J.loop (fun kk env w => ∃ (x3 : List (Int)) (x4 : Int), env = [(0, .slice A1 x3.length c_1), (1, .int .i64 a1), (2, .int .i64 a2), (6, .int .i64 x2), (7, .int .i64 x4)] ∧ St w0 F0 [Zf 70 (.int .u32) x3 (.slice A1 x3.length c_1)] [] w ∧ Q53.l1 kk a1 a2 x2 x3 x4 = some r ∧ kk ≤ k1 ∧ x3.length = a0.length) (k := k1) ⟨x1, x2, rfl, h16, H, Nat.le_refl _, e1⟩ ?_
   rintro k2 env w2 ⟨x3, x4, rfl, h2, H, hk2, e2⟩
   cases k2 with
   | zero => exact nomatch (show none = some r from H)
   | succ k2 =>
    rw [Q53.l1] at H
    refine J.seq (J.seq ?_)
    refine J.heldSt mix h2 ?_
    have h3 := h2.drew
    refine HJ.run Za rfl [0, 1, 2, 3] rfl ?_
    rcases Bool.eq_false_or_eq_true (decide (a1 < x4)) with c2 | c2
    ·replace H := Zi c2 H
     refine HJ.know (t := 19) rfl (congrArg Value.bool c2) (HJ.run Za rfl [4, 5, 8, 9, 10] rfl ?_)
     obtain ⟨⟨p1, p2⟩, H⟩ := Zo H
     have e3 := Zy h3.wh (Gives.of 0 rfl Zl) p1 p2
     refine HJ.q (i := 6) rfl rfl rfl rfl rfl rfl (Zk Za rfl rfl rfl rfl rfl e3 p1 p2) (HJ.q (i := 7) rfl rfl rfl rfl rfl rfl (Ze (f := 0) Za rfl (fun w e => e) (Gives.of 0 rfl Zl) p1 p2 rfl rfl rfl rfl rfl) ?_)
     obtain ⟨⟨p3, p4⟩, H⟩ := Zo H
     refine HJ.q (i := 11) rfl rfl rfl rfl rfl rfl (Zk Za rfl rfl rfl rfl rfl e3 p3 p4) (HJ.q (i := 12) rfl rfl rfl rfl rfl rfl (Ze (f := 0) Za rfl (fun w e => e) (Gives.of 0 rfl Zl) p3 p4 rfl rfl rfl rfl rfl) ?_)
     obtain ⟨r1, q1, H⟩ := Zj H
     refine HJ.op (i := 13) rfl rfl rfl rfl rfl (Zd [] (Q4.spec q1) rfl rfl rfl h3 rfl Zm) ?_
     rintro _ w3 ⟨_, ⟨rfl, rfl⟩, h4⟩
     replace h4 : St w0 F0 [_] _ _ := h4
     refine ⟨⟨[], h4⟩, ?_⟩
     refine HJ.run Za rfl [14] rfl (HJ.fin [(0, _), (1, _), (2, _), (6, _), (7, _), (30, .bool r1)] rfl rfl (J.cond rfl (fun c3 => ?_) (fun c3 => ?_)))
     ·replace H := Zi c3 H
      refine J.skip (J.seq (J.block ?_))
      refine J.mid (fun env w => env = [(0, .slice A1 ((x3.set x4.toNat (gt x3 (w64 (x4 - 1)))).set (w64 (x4 - 1)).toNat (gt x3 x4)).length c_1), (1, .int .i64 a1), (2, .int .i64 a2), (6, .int .i64 x2), (7, .int .i64 x4)] ∧ St w0 F0 [Zf 70 (.int .u32) ((x3.set x4.toNat (gt x3 (w64 (x4 - 1)))).set (w64 (x4 - 1)).toNat (gt x3 x4)) (.slice A1 ((x3.set x4.toNat (gt x3 (w64 (x4 - 1)))).set (w64 (x4 - 1)).toNat (gt x3 x4)).length c_1)] [] w) ?_ ?_
      ·refine J.heldSt mix (h4.only [] rfl) ?_
       have h7 := h4.drew
       refine HJ.run Za rfl [0, 1, 2, 3, 4, 5, 6, 7, 10, 11] rfl (HJ.q (i := 8) rfl rfl rfl rfl rfl rfl (Zk Za rfl rfl rfl rfl rfl e3 p3 p4) (HJ.q (i := 12) rfl rfl rfl rfl rfl rfl (Zk Za rfl rfl rfl rfl rfl e3 p1 p2) (HJ.pick [9, 13] (i := 9) rfl rfl rfl rfl ((Zs ?_ (Zs ?_ Z4))))))
       ·refine HS.op (i := 9) rfl rfl rfl (OpT.ofq (Ze (f := 0) Za rfl h7.wht (Gives.of 0 rfl Zl) p3 p4 rfl rfl rfl rfl rfl)) ?_
        rintro _ _ ⟨rfl, rfl⟩
        replace h7 : St w0 F0 [_] _ _ := h7
        refine ⟨⟨[_], h7⟩, ?_⟩
        refine HJ.op (i := 13) rfl rfl rfl rfl rfl (OpT.ofq (Ze (f := 0) Za rfl h7.wht (Gives.of 0 rfl Zl) p1 p2 rfl rfl rfl rfl rfl)) ?_
        rintro _ _ ⟨rfl, rfl⟩
        replace h7 : St w0 F0 [_] _ _ := h7
        refine ⟨⟨[_], h7⟩, ?_⟩
        refine HJ.q (i := 14) rfl rfl rfl rfl rfl rfl (Zk Za rfl rfl rfl rfl rfl e3 p1 p2) (HJ.op (i := 15) rfl rfl rfl rfl rfl (Zp (ty := (.int .u32)) (f := 0) (ix := x4) Za rfl (gt x3 (w64 (x4 - 1))) 0 rfl h7 rfl rfl p1 p2 rfl rfl rfl rfl rfl rfl rfl) ?_)
        intro _ w6 h8
        replace h8 : St w0 F0 [Zf 70 (.int .u32) (x3.set x4.toNat (gt x3 (w64 (x4 - 1)))) (.slice A1 (x3.set x4.toNat (gt x3 (w64 (x4 - 1)))).length c_1)] _ _ := h8
        refine ⟨⟨[_], h8⟩, ?_⟩
        have e6 : (x3.set x4.toNat (gt x3 (w64 (x4 - 1)))).length = a0.length := List.length_set.trans e2
        refine HJ.q (i := 16) rfl rfl rfl rfl rfl rfl (Zk Za rfl rfl rfl rfl rfl e3 p3 p4) (HJ.op (i := 17) rfl rfl rfl rfl rfl (Zp (ty := (.int .u32)) (f := 0) (ix := (w64 (x4 - 1))) Za rfl (gt x3 x4) 0 rfl h8 rfl rfl p3 (by simpa only [List.length_set] using p4) rfl rfl rfl rfl rfl rfl rfl) ?_)
        intro _ w7 h9
        replace h9 : St w0 F0 [Zf 70 (.int .u32) ((x3.set x4.toNat (gt x3 (w64 (x4 - 1)))).set (w64 (x4 - 1)).toNat (gt x3 x4)) (.slice A1 ((x3.set x4.toNat (gt x3 (w64 (x4 - 1)))).set (w64 (x4 - 1)).toNat (gt x3 x4)).length c_1)] _ _ := h9
        refine ⟨⟨[_], h9⟩, ?_⟩
        have e7 : ((x3.set x4.toNat (gt x3 (w64 (x4 - 1)))).set (w64 (x4 - 1)).toNat (gt x3 x4)).length = a0.length := List.length_set.trans e6
        refine HJ.fin [(0, .slice A1 x3.length c_1), (1, .int .i64 a1), (2, .int .i64 a2), (6, .int .i64 x2), (7, .int .i64 x4)] rfl rfl ?_
        exact Zq ⟨(by simp only [List.length_set]), ((h9.only [0] rfl).rds [] rfl)⟩
       ·refine HS.op (i := 13) rfl rfl rfl (OpT.ofq (Ze (f := 0) Za rfl h7.wht (Gives.of 0 rfl Zl) p1 p2 rfl rfl rfl rfl rfl)) ?_
        rintro _ _ ⟨rfl, rfl⟩
        replace h7 : St w0 F0 [_] _ _ := h7
        refine ⟨⟨[_], h7⟩, ?_⟩
        refine HJ.op (i := 9) rfl rfl rfl rfl rfl (OpT.ofq (Ze (f := 0) Za rfl h7.wht (Gives.of 0 rfl Zl) p3 p4 rfl rfl rfl rfl rfl)) ?_
        rintro _ _ ⟨rfl, rfl⟩
        replace h7 : St w0 F0 [_] _ _ := h7
        refine ⟨⟨[_], h7⟩, ?_⟩
        refine HJ.q (i := 14) rfl rfl rfl rfl rfl rfl (Zk Za rfl rfl rfl rfl rfl e3 p1 p2) (HJ.op (i := 15) rfl rfl rfl rfl rfl (Zp (ty := (.int .u32)) (f := 0) (ix := x4) Za rfl (gt x3 (w64 (x4 - 1))) 0 rfl h7 rfl rfl p1 p2 rfl rfl rfl rfl rfl rfl rfl) ?_)
        intro _ w8 h10
        replace h10 : St w0 F0 [Zf 70 (.int .u32) (x3.set x4.toNat (gt x3 (w64 (x4 - 1)))) (.slice A1 (x3.set x4.toNat (gt x3 (w64 (x4 - 1)))).length c_1)] _ _ := h10
        refine ⟨⟨[_], h10⟩, ?_⟩
        have e8 : (x3.set x4.toNat (gt x3 (w64 (x4 - 1)))).length = a0.length := List.length_set.trans e2
        refine HJ.q (i := 16) rfl rfl rfl rfl rfl rfl (Zk Za rfl rfl rfl rfl rfl e3 p3 p4) (HJ.op (i := 17) rfl rfl rfl rfl rfl (Zp (ty := (.int .u32)) (f := 0) (ix := (w64 (x4 - 1))) Za rfl (gt x3 x4) 0 rfl h10 rfl rfl p3 (by simpa only [List.length_set] using p4) rfl rfl rfl rfl rfl rfl rfl) ?_)
        intro _ w9 h11
        replace h11 : St w0 F0 [Zf 70 (.int .u32) ((x3.set x4.toNat (gt x3 (w64 (x4 - 1)))).set (w64 (x4 - 1)).toNat (gt x3 x4)) (.slice A1 ((x3.set x4.toNat (gt x3 (w64 (x4 - 1)))).set (w64 (x4 - 1)).toNat (gt x3 x4)).length c_1)] _ _ := h11
        refine ⟨⟨[_], h11⟩, ?_⟩
        have e9 : ((x3.set x4.toNat (gt x3 (w64 (x4 - 1)))).set (w64 (x4 - 1)).toNat (gt x3 x4)).length = a0.length := List.length_set.trans e8
        refine HJ.fin [(0, .slice A1 x3.length c_1), (1, .int .i64 a1), (2, .int .i64 a2), (6, .int .i64 x2), (7, .int .i64 x4)] rfl rfl ?_
        exact Zq ⟨(by simp only [List.length_set]), ((h11.only [0] rfl).rds [] rfl)⟩
      rintro env w10 ⟨rfl, h12⟩
      have e10 : ((x3.set x4.toNat (gt x3 (w64 (x4 - 1)))).set (w64 (x4 - 1)).toNat (gt x3 x4)).length = a0.length := by first | (simp only [List.length_set]; done) | (simp only [List.length_set]; exact e2)
      refine J.region (RJ.run Za 3 rfl (RJ.fin [(0, .slice A1 ((x3.set x4.toNat (gt x3 (w64 (x4 - 1)))).set (w64 (x4 - 1)).toNat (gt x3 x4)).length c_1), (1, _), (2, _), (6, _), (7, .int .i64 (w64 (x4 - 1)))] rfl ?_))
      have h13 := ((h12.only [0] rfl).rds [] rfl)
      exact ⟨k2, by omega, ((x3.set x4.toNat (gt x3 (w64 (x4 - 1)))).set (w64 (x4 - 1)).toNat (gt x3 x4)), (w64 (x4 - 1)), rfl, h13, H, by omega, e10⟩
     replace H := Zg c3 H
     refine J.exit (J.region (RJ.run Za 3 rfl (RJ.fin [(0, _), (1, _), (2, _), (6, .int .i64 (w64 (x2 + 1)))] rfl ?_)))
     have h14 := ((h4.only [0] rfl).rds [] rfl)
     exact ⟨k2, by omega, x3, (w64 (x2 + 1)), rfl, h14, H, e2⟩
    replace H := Zg c2 H
    refine HJ.know (t := 19) rfl (congrArg Value.bool c2) (HJ.run Za rfl [4, 5, 6, 7, 8, 9, 10, 11, 12, 13, 14] rfl (HJ.fin [(0, _), (1, _), (2, _), (6, _), (7, _), (30, .bool false)] rfl rfl (J.condF rfl (J.exit (J.region (RJ.run Za 3 rfl (RJ.fin [(0, _), (1, _), (2, _), (6, .int .i64 (w64 (x2 + 1)))] rfl ?_)))))))
    have h15 := ((h3.only [0] rfl).rds [] rfl)
    exact ⟨k2, by omega, x3, (w64 (x2 + 1)), rfl, h15, H, e2⟩
  replace H := Zg c1 H
  refine J.exit ?_
  obtain rfl := Option.some.inj H
  exact ⟨_, _, _, (Zb rfl), ⟨rfl, rfl, e1⟩, h1.only [0] rfl⟩

def Q63.l0 : Nat → (Int) → (Int) → (List (Int)) → (Int) → Option (List (Int))
 | 0, _, _, _, _ => none
 | k + 1, a2, a3, x1, x2 => if (decide (a2 ≤ (w64 ((w64 (2 * x2)) + 1)))) = true then (some x1) else (if (decide ((w64 ((w64 ((w64 (2 * x2)) + 1)) + 1)) < a2)) = true then (if 0 ≤ (w64 (a3 + (w64 ((w64 (2 * x2)) + 1)))) ∧ (w64 (a3 + (w64 ((w64 (2 * x2)) + 1)))) < (x1.length : Int) then (if 0 ≤ (w64 ((w64 (a3 + (w64 ((w64 (2 * x2)) + 1)))) + 1)) ∧ (w64 ((w64 (a3 + (w64 ((w64 (2 * x2)) + 1)))) + 1)) < (x1.length : Int) then ((Q4.f (gt x1 (w64 (a3 + (w64 ((w64 (2 * x2)) + 1))))) (gt x1 (w64 ((w64 (a3 + (w64 ((w64 (2 * x2)) + 1)))) + 1)))).bind fun r1 => (if r1 = true then (if 0 ≤ (w64 (a3 + x2)) ∧ (w64 (a3 + x2)) < (x1.length : Int) then (if 0 ≤ (w64 (a3 + (w64 ((w64 ((w64 (2 * x2)) + 1)) + 1)))) ∧ (w64 (a3 + (w64 ((w64 ((w64 (2 * x2)) + 1)) + 1)))) < (x1.length : Int) then ((Q4.f (gt x1 (w64 (a3 + x2))) (gt x1 (w64 (a3 + (w64 ((w64 ((w64 (2 * x2)) + 1)) + 1)))))).bind fun r2 => (if (!r2) = true then (some x1) else (Q63.l0 k a2 a3 ((x1.set (w64 (a3 + x2)).toNat (gt x1 (w64 (a3 + (w64 ((w64 ((w64 (2 * x2)) + 1)) + 1)))))).set (w64 (a3 + (w64 ((w64 ((w64 (2 * x2)) + 1)) + 1)))).toNat (gt x1 (w64 (a3 + x2)))) (w64 ((w64 ((w64 (2 * x2)) + 1)) + 1))))) else none) else none) else (if 0 ≤ (w64 (a3 + x2)) ∧ (w64 (a3 + x2)) < (x1.length : Int) then ((Q4.f (gt x1 (w64 (a3 + x2))) (gt x1 (w64 (a3 + (w64 ((w64 (2 * x2)) + 1)))))).bind fun r3 => (if (!r3) = true then (some x1) else (Q63.l0 k a2 a3 ((x1.set (w64 (a3 + x2)).toNat (gt x1 (w64 (a3 + (w64 ((w64 (2 * x2)) + 1)))))).set (w64 (a3 + (w64 ((w64 (2 * x2)) + 1)))).toNat (gt x1 (w64 (a3 + x2)))) (w64 ((w64 (2 * x2)) + 1))))) else none))) else none) else none) else (if 0 ≤ (w64 (a3 + x2)) ∧ (w64 (a3 + x2)) < (x1.length : Int) then (if 0 ≤ (w64 (a3 + (w64 ((w64 (2 * x2)) + 1)))) ∧ (w64 (a3 + (w64 ((w64 (2 * x2)) + 1)))) < (x1.length : Int) then ((Q4.f (gt x1 (w64 (a3 + x2))) (gt x1 (w64 (a3 + (w64 ((w64 (2 * x2)) + 1)))))).bind fun r4 => (if (!r4) = true then (some x1) else (Q63.l0 k a2 a3 ((x1.set (w64 (a3 + x2)).toNat (gt x1 (w64 (a3 + (w64 ((w64 (2 * x2)) + 1)))))).set (w64 (a3 + (w64 ((w64 (2 * x2)) + 1)))).toNat (gt x1 (w64 (a3 + x2)))) (w64 ((w64 (2 * x2)) + 1))))) else none) else none))
def Q63.f (k : Nat) (a0 : List (Int)) (a1 : Int) (a2 : Int) (a3 : Int) : Option (List (Int)) := Q63.l0 k a2 a3 a0 a1
theorem Q63.spec {k : Nat} {a0 : List (Int)} {a1 : Int} {a2 : Int} {a3 : Int} {A1 : Option Addr} {c_1 : Nat} {r : List (Int)} (H : Q63.f k a0 a1 a2 a3 = some r) :
  Spec Tryz.prog 112 [.slice A1 a0.length c_1, .int .i64 a1, .int .i64 a2, .int .i64 a3] [Zf 70 (.int .u32) a0 (.slice A1 a0.length c_1)] [] (fun v l => v = .tuple #[] ∧ l = [Zf 70 (.int .u32) r (.slice A1 r.length c_1)] ∧ r.length = a0.length) := by
 refine Spec.enter Tryz.func112 rfl (by kernel_rfl) (by kernel_rfl) fun w0 F0 h0 => ?_
 unfold Q63.f at H
 refine J.seq (J.region ?_)
 refine RJ.run Za 2 rfl (RJ.fin [(0, .slice A1 a0.length c_1), (2, .int .i64 a2), (3, .int .i64 a3), (8, .int .i64 a1)] rfl (J.block ?_))
 have h37 := ((h0.only [0] rfl).rds [] rfl)
 refine J.loop (fun kk env w => ∃ (x1 : List (Int)) (x2 : Int), env = [(0, .slice A1 x1.length c_1), (2, .int .i64 a2), (3, .int .i64 a3), (8, .int .i64 x2)] ∧ St w0 F0 [Zf 70 (.int .u32) x1 (.slice A1 x1.length c_1)] [] w ∧ Q63.l0 kk a2 a3 x1 x2 = some r ∧ x1.length = a0.length) (k := k) ⟨a0, a1, rfl, h37, H, (rfl : a0.length = a0.length)⟩ ?_
 rintro k1 env w1 ⟨x1, x2, rfl, h1, H, e1⟩
 cases k1 with
 | zero => exact nomatch (show none = some r from H)
 | succ k1 =>
  rw [Q63.l0] at H
  refine J.block (J.seq (J.region ?_))
  refine RJ.run Za 4 rfl (RJ.fin [(0, _), (2, _), (3, _), (8, _), (9, .int .i64 (w64 ((w64 (2 * x2)) + 1)))] rfl (J.seq (J.seq (J.region ?_))))
  refine RJ.run Za 3 rfl (RJ.fin [(0, _), (2, _), (3, _), (8, _), (9, _), (16, .bool (decide (a2 ≤ (w64 ((w64 (2 * x2)) + 1)))))] rfl (J.cond rfl (fun c1 => ?_) (fun c1 => ?_)))
  ·replace H := Zi c1 H
   refine J.exit ?_
   obtain rfl := Option.some.inj H
   exact ⟨_, _, _, (Zb rfl), ⟨rfl, rfl, e1⟩, h1.only [0] rfl⟩
  replace H := Zg c1 H
  refine J.skip (J.seq (J.seq ?_))
  refine J.heldSt mix h1 ?_
  have h2 := h1.drew
  refine HJ.run Za rfl [0, 1, 2, 3, 4] rfl ?_
  rcases Bool.eq_false_or_eq_true (decide ((w64 ((w64 ((w64 (2 * x2)) + 1)) + 1)) < a2)) with c2 | c2
  ·replace H := Zi c2 H
   refine HJ.know (t := 21) rfl (congrArg Value.bool c2) (HJ.run Za rfl [5, 6, 7, 8, 11, 12, 13, 14, 15] rfl ?_)
   obtain ⟨⟨p1, p2⟩, H⟩ := Zo H
   have e2 := Zy h2.wh (Gives.of 0 rfl Zl) p1 p2
   refine HJ.q (i := 9) rfl rfl rfl rfl rfl rfl (Zk Za rfl rfl rfl rfl rfl e2 p1 p2) (HJ.q (i := 10) rfl rfl rfl rfl rfl rfl (Ze (f := 0) Za rfl (fun w e => e) (Gives.of 0 rfl Zl) p1 p2 rfl rfl rfl rfl rfl) ?_)
   obtain ⟨⟨p3, p4⟩, H⟩ := Zo H
   refine HJ.q (i := 16) rfl rfl rfl rfl rfl rfl (Zk Za rfl rfl rfl rfl rfl e2 p3 p4) (HJ.q (i := 17) rfl rfl rfl rfl rfl rfl (Ze (f := 0) Za rfl (fun w e => e) (Gives.of 0 rfl Zl) p3 p4 rfl rfl rfl rfl rfl) ?_)
   obtain ⟨r1, q1, H⟩ := Zj H
   refine HJ.op (i := 18) rfl rfl rfl rfl rfl (Zd [] (Q4.spec q1) rfl rfl rfl h2 rfl Zm) ?_
   rintro _ w2 ⟨_, ⟨rfl, rfl⟩, h3⟩
   replace h3 : St w0 F0 [_] _ _ := h3
   refine ⟨⟨[], h3⟩, ?_⟩
   refine HJ.run Za rfl [19] rfl (HJ.fin [(0, _), (2, _), (3, _), (8, _), (9, _), (36, .bool r1)] rfl rfl (J.cond rfl (fun c3 => ?_) (fun c3 => ?_)))
   ·replace H := Zi c3 H
    refine J.region (RJ.run Za 3 rfl (RJ.fin [(0, _), (2, _), (3, _), (8, _), (9, .int .i64 (w64 ((w64 ((w64 (2 * x2)) + 1)) + 1)))] rfl (J.seq (J.seq ?_))))
    refine J.heldSt mix h3 ?_
    have h4 := h3.drew
    refine HJ.run Za rfl [0, 1, 2, 3, 6, 7, 8, 9] rfl ?_
    obtain ⟨⟨p5, p6⟩, H⟩ := Zo H
    refine HJ.q (i := 4) rfl rfl rfl rfl rfl rfl (Zk Za rfl rfl rfl rfl rfl e2 p5 p6) (HJ.q (i := 5) rfl rfl rfl rfl rfl rfl (Ze (f := 0) Za rfl (fun w e => e) (Gives.of 0 rfl Zl) p5 p6 rfl rfl rfl rfl rfl) ?_)
    obtain ⟨⟨p7, p8⟩, H⟩ := Zo H
    refine HJ.q (i := 10) rfl rfl rfl rfl rfl rfl (Zk Za rfl rfl rfl rfl rfl e2 p7 p8) (HJ.q (i := 11) rfl rfl rfl rfl rfl rfl (Ze (f := 0) Za rfl (fun w e => e) (Gives.of 0 rfl Zl) p7 p8 rfl rfl rfl rfl rfl) ?_)
    obtain ⟨r2, q2, H⟩ := Zj H
    refine HJ.op (i := 12) rfl rfl rfl rfl rfl (Zd [] (Q4.spec q2) rfl rfl rfl h4 rfl Zm) ?_
    rintro _ w3 ⟨_, ⟨rfl, rfl⟩, h5⟩
    replace h5 : St w0 F0 [_] _ _ := h5
    refine ⟨⟨[], h5⟩, ?_⟩
    refine HJ.run Za rfl [13] rfl (HJ.fin [(0, _), (2, _), (3, _), (8, _), (9, _), (52, .bool (!r2))] rfl rfl (J.cond rfl (fun c4 => ?_) (fun c4 => ?_)))
    ·replace H := Zi c4 H
     refine J.ret ?_
     obtain rfl := Option.some.inj H
     exact ⟨_, _, _, (Zb rfl), ⟨rfl, rfl, e1⟩, h5.only [0] rfl⟩
    replace H := Zg c4 H
    refine J.skip (J.seq (J.midS (fun env w => env = [(0, .slice A1 ((x1.set (w64 (a3 + x2)).toNat (gt x1 (w64 (a3 + (w64 ((w64 ((w64 (2 * x2)) + 1)) + 1)))))).set (w64 (a3 + (w64 ((w64 ((w64 (2 * x2)) + 1)) + 1)))).toNat (gt x1 (w64 (a3 + x2)))).length c_1), (2, .int .i64 a2), (3, .int .i64 a3), (9, .int .i64 (w64 ((w64 ((w64 (2 * x2)) + 1)) + 1)))] ∧ St w0 F0 [Zf 70 (.int .u32) ((x1.set (w64 (a3 + x2)).toNat (gt x1 (w64 (a3 + (w64 ((w64 ((w64 (2 * x2)) + 1)) + 1)))))).set (w64 (a3 + (w64 ((w64 ((w64 (2 * x2)) + 1)) + 1)))).toNat (gt x1 (w64 (a3 + x2)))) (.slice A1 ((x1.set (w64 (a3 + x2)).toNat (gt x1 (w64 (a3 + (w64 ((w64 ((w64 (2 * x2)) + 1)) + 1)))))).set (w64 (a3 + (w64 ((w64 ((w64 (2 * x2)) + 1)) + 1)))).toNat (gt x1 (w64 (a3 + x2)))).length c_1)] [] w) ?_ ?_))
    ·refine J.heldSt mix (h5.only [] rfl) ?_
     have h8 := h5.drew
     refine HJ.run Za rfl [0, 1, 2, 3, 4, 5, 6, 7, 8, 9, 10, 11, 14, 15, 16, 17] rfl (HJ.q (i := 12) rfl rfl rfl rfl rfl rfl (Zk Za rfl rfl rfl rfl rfl e2 p7 p8) (HJ.q (i := 18) rfl rfl rfl rfl rfl rfl (Zk Za rfl rfl rfl rfl rfl e2 p5 p6) (HJ.pick [13, 19] (i := 13) rfl rfl rfl rfl ((Zs ?_ (Zs ?_ Z4))))))
     ·refine HS.op (i := 13) rfl rfl rfl (OpT.ofq (Ze (f := 0) Za rfl h8.wht (Gives.of 0 rfl Zl) p7 p8 rfl rfl rfl rfl rfl)) ?_
      rintro _ _ ⟨rfl, rfl⟩
      replace h8 : St w0 F0 [_] _ _ := h8
      refine ⟨⟨[_], h8⟩, ?_⟩
      refine HJ.op (i := 19) rfl rfl rfl rfl rfl (OpT.ofq (Ze (f := 0) Za rfl h8.wht (Gives.of 0 rfl Zl) p5 p6 rfl rfl rfl rfl rfl)) ?_
      rintro _ _ ⟨rfl, rfl⟩
      replace h8 : St w0 F0 [_] _ _ := h8
      refine ⟨⟨[_], h8⟩, ?_⟩
      refine HJ.q (i := 20) rfl rfl rfl rfl rfl rfl (Zk Za rfl rfl rfl rfl rfl e2 p5 p6) (HJ.op (i := 21) rfl rfl rfl rfl rfl (Zp (ty := (.int .u32)) (f := 0) (ix := (w64 (a3 + x2))) Za rfl (gt x1 (w64 (a3 + (w64 ((w64 ((w64 (2 * x2)) + 1)) + 1))))) 0 rfl h8 rfl rfl p5 p6 rfl rfl rfl rfl rfl rfl rfl) ?_)
      intro _ w6 h9
      replace h9 : St w0 F0 [Zf 70 (.int .u32) (x1.set (w64 (a3 + x2)).toNat (gt x1 (w64 (a3 + (w64 ((w64 ((w64 (2 * x2)) + 1)) + 1)))))) (.slice A1 (x1.set (w64 (a3 + x2)).toNat (gt x1 (w64 (a3 + (w64 ((w64 ((w64 (2 * x2)) + 1)) + 1)))))).length c_1)] _ _ := h9
      refine ⟨⟨[_], h9⟩, ?_⟩
      have e5 : (x1.set (w64 (a3 + x2)).toNat (gt x1 (w64 (a3 + (w64 ((w64 ((w64 (2 * x2)) + 1)) + 1)))))).length = a0.length := List.length_set.trans e1
      refine HJ.q (i := 22) rfl rfl rfl rfl rfl rfl (Zk Za rfl rfl rfl rfl rfl e2 p7 p8) (HJ.op (i := 23) rfl rfl rfl rfl rfl (Zp (ty := (.int .u32)) (f := 0) (ix := (w64 (a3 + (w64 ((w64 ((w64 (2 * x2)) + 1)) + 1))))) Za rfl (gt x1 (w64 (a3 + x2))) 0 rfl h9 rfl rfl p7 (by simpa only [List.length_set] using p8) rfl rfl rfl rfl rfl rfl rfl) ?_)
      intro _ w7 h10
      replace h10 : St w0 F0 [Zf 70 (.int .u32) ((x1.set (w64 (a3 + x2)).toNat (gt x1 (w64 (a3 + (w64 ((w64 ((w64 (2 * x2)) + 1)) + 1)))))).set (w64 (a3 + (w64 ((w64 ((w64 (2 * x2)) + 1)) + 1)))).toNat (gt x1 (w64 (a3 + x2)))) (.slice A1 ((x1.set (w64 (a3 + x2)).toNat (gt x1 (w64 (a3 + (w64 ((w64 ((w64 (2 * x2)) + 1)) + 1)))))).set (w64 (a3 + (w64 ((w64 ((w64 (2 * x2)) + 1)) + 1)))).toNat (gt x1 (w64 (a3 + x2)))).length c_1)] _ _ := h10
      refine ⟨⟨[_], h10⟩, ?_⟩
      have e6 : ((x1.set (w64 (a3 + x2)).toNat (gt x1 (w64 (a3 + (w64 ((w64 ((w64 (2 * x2)) + 1)) + 1)))))).set (w64 (a3 + (w64 ((w64 ((w64 (2 * x2)) + 1)) + 1)))).toNat (gt x1 (w64 (a3 + x2)))).length = a0.length := List.length_set.trans e5
      refine HJ.fin [(0, .slice A1 x1.length c_1), (2, .int .i64 a2), (3, .int .i64 a3), (9, .int .i64 (w64 ((w64 ((w64 (2 * x2)) + 1)) + 1)))] rfl rfl ?_
      exact Zq ⟨(by simp only [List.length_set]), ((h10.only [0] rfl).rds [] rfl)⟩
     ·refine HS.op (i := 19) rfl rfl rfl (OpT.ofq (Ze (f := 0) Za rfl h8.wht (Gives.of 0 rfl Zl) p5 p6 rfl rfl rfl rfl rfl)) ?_
      rintro _ _ ⟨rfl, rfl⟩
      replace h8 : St w0 F0 [_] _ _ := h8
      refine ⟨⟨[_], h8⟩, ?_⟩
      refine HJ.op (i := 13) rfl rfl rfl rfl rfl (OpT.ofq (Ze (f := 0) Za rfl h8.wht (Gives.of 0 rfl Zl) p7 p8 rfl rfl rfl rfl rfl)) ?_
      rintro _ _ ⟨rfl, rfl⟩
      replace h8 : St w0 F0 [_] _ _ := h8
      refine ⟨⟨[_], h8⟩, ?_⟩
      refine HJ.q (i := 20) rfl rfl rfl rfl rfl rfl (Zk Za rfl rfl rfl rfl rfl e2 p5 p6) (HJ.op (i := 21) rfl rfl rfl rfl rfl (Zp (ty := (.int .u32)) (f := 0) (ix := (w64 (a3 + x2))) Za rfl (gt x1 (w64 (a3 + (w64 ((w64 ((w64 (2 * x2)) + 1)) + 1))))) 0 rfl h8 rfl rfl p5 p6 rfl rfl rfl rfl rfl rfl rfl) ?_)
      intro _ w8 h11
      replace h11 : St w0 F0 [Zf 70 (.int .u32) (x1.set (w64 (a3 + x2)).toNat (gt x1 (w64 (a3 + (w64 ((w64 ((w64 (2 * x2)) + 1)) + 1)))))) (.slice A1 (x1.set (w64 (a3 + x2)).toNat (gt x1 (w64 (a3 + (w64 ((w64 ((w64 (2 * x2)) + 1)) + 1)))))).length c_1)] _ _ := h11
      refine ⟨⟨[_], h11⟩, ?_⟩
      have e7 : (x1.set (w64 (a3 + x2)).toNat (gt x1 (w64 (a3 + (w64 ((w64 ((w64 (2 * x2)) + 1)) + 1)))))).length = a0.length := List.length_set.trans e1
      refine HJ.q (i := 22) rfl rfl rfl rfl rfl rfl (Zk Za rfl rfl rfl rfl rfl e2 p7 p8) (HJ.op (i := 23) rfl rfl rfl rfl rfl (Zp (ty := (.int .u32)) (f := 0) (ix := (w64 (a3 + (w64 ((w64 ((w64 (2 * x2)) + 1)) + 1))))) Za rfl (gt x1 (w64 (a3 + x2))) 0 rfl h11 rfl rfl p7 (by simpa only [List.length_set] using p8) rfl rfl rfl rfl rfl rfl rfl) ?_)
      intro _ w9 h12
      replace h12 : St w0 F0 [Zf 70 (.int .u32) ((x1.set (w64 (a3 + x2)).toNat (gt x1 (w64 (a3 + (w64 ((w64 ((w64 (2 * x2)) + 1)) + 1)))))).set (w64 (a3 + (w64 ((w64 ((w64 (2 * x2)) + 1)) + 1)))).toNat (gt x1 (w64 (a3 + x2)))) (.slice A1 ((x1.set (w64 (a3 + x2)).toNat (gt x1 (w64 (a3 + (w64 ((w64 ((w64 (2 * x2)) + 1)) + 1)))))).set (w64 (a3 + (w64 ((w64 ((w64 (2 * x2)) + 1)) + 1)))).toNat (gt x1 (w64 (a3 + x2)))).length c_1)] _ _ := h12
      refine ⟨⟨[_], h12⟩, ?_⟩
      have e8 : ((x1.set (w64 (a3 + x2)).toNat (gt x1 (w64 (a3 + (w64 ((w64 ((w64 (2 * x2)) + 1)) + 1)))))).set (w64 (a3 + (w64 ((w64 ((w64 (2 * x2)) + 1)) + 1)))).toNat (gt x1 (w64 (a3 + x2)))).length = a0.length := List.length_set.trans e7
      refine HJ.fin [(0, .slice A1 x1.length c_1), (2, .int .i64 a2), (3, .int .i64 a3), (9, .int .i64 (w64 ((w64 ((w64 (2 * x2)) + 1)) + 1)))] rfl rfl ?_
      exact Zq ⟨(by simp only [List.length_set]), ((h12.only [0] rfl).rds [] rfl)⟩
    rintro env w10 ⟨rfl, h13⟩
    have e9 : ((x1.set (w64 (a3 + x2)).toNat (gt x1 (w64 (a3 + (w64 ((w64 ((w64 (2 * x2)) + 1)) + 1)))))).set (w64 (a3 + (w64 ((w64 ((w64 (2 * x2)) + 1)) + 1)))).toNat (gt x1 (w64 (a3 + x2)))).length = a0.length := by first | (simp only [List.length_set]; done) | (simp only [List.length_set]; exact e1)
    refine J.region (RJ.run Za 2 rfl (RJ.fin [(0, .slice A1 ((x1.set (w64 (a3 + x2)).toNat (gt x1 (w64 (a3 + (w64 ((w64 ((w64 (2 * x2)) + 1)) + 1)))))).set (w64 (a3 + (w64 ((w64 ((w64 (2 * x2)) + 1)) + 1)))).toNat (gt x1 (w64 (a3 + x2)))).length c_1), (2, _), (3, _), (8, .int .i64 (w64 ((w64 ((w64 (2 * x2)) + 1)) + 1)))] rfl ?_))
    have h14 := ((h13.only [0] rfl).rds [] rfl)
    exact ⟨k1, by omega, ((x1.set (w64 (a3 + x2)).toNat (gt x1 (w64 (a3 + (w64 ((w64 ((w64 (2 * x2)) + 1)) + 1)))))).set (w64 (a3 + (w64 ((w64 ((w64 (2 * x2)) + 1)) + 1)))).toNat (gt x1 (w64 (a3 + x2)))), (w64 ((w64 ((w64 (2 * x2)) + 1)) + 1)), rfl, h14, H, e9⟩
   replace H := Zg c3 H
   refine J.skip (J.seq (J.seq ?_))
   refine J.heldSt mix h3 ?_
   have h15 := h3.drew
   refine HJ.run Za rfl [0, 1, 2, 3, 6, 7, 8, 9] rfl ?_
   obtain ⟨⟨p9, p10⟩, H⟩ := Zo H
   refine HJ.q (i := 4) rfl rfl rfl rfl rfl rfl (Zk Za rfl rfl rfl rfl rfl e2 p9 p10) (HJ.q (i := 5) rfl rfl rfl rfl rfl rfl (Ze (f := 0) Za rfl (fun w e => e) (Gives.of 0 rfl Zl) p9 p10 rfl rfl rfl rfl rfl) ?_)
   refine HJ.q (i := 10) rfl rfl rfl rfl rfl rfl (Zk Za rfl rfl rfl rfl rfl e2 p1 p2) (HJ.q (i := 11) rfl rfl rfl rfl rfl rfl (Ze (f := 0) Za rfl (fun w e => e) (Gives.of 0 rfl Zl) p1 p2 rfl rfl rfl rfl rfl) ?_)
   obtain ⟨r3, q3, H⟩ := Zj H
   refine HJ.op (i := 12) rfl rfl rfl rfl rfl (Zd [] (Q4.spec q3) rfl rfl rfl h15 rfl Zm) ?_
   rintro _ w11 ⟨_, ⟨rfl, rfl⟩, h16⟩
   replace h16 : St w0 F0 [_] _ _ := h16
   refine ⟨⟨[], h16⟩, ?_⟩
   refine HJ.run Za rfl [13] rfl (HJ.fin [(0, _), (2, _), (3, _), (8, _), (9, _), (52, .bool (!r3))] rfl rfl (J.cond rfl (fun c5 => ?_) (fun c5 => ?_)))
   ·replace H := Zi c5 H
    refine J.ret ?_
    obtain rfl := Option.some.inj H
    exact ⟨_, _, _, (Zb rfl), ⟨rfl, rfl, e1⟩, h16.only [0] rfl⟩
   replace H := Zg c5 H
   refine J.skip (J.seq (J.midS (fun env w => env = [(0, .slice A1 ((x1.set (w64 (a3 + x2)).toNat (gt x1 (w64 (a3 + (w64 ((w64 (2 * x2)) + 1)))))).set (w64 (a3 + (w64 ((w64 (2 * x2)) + 1)))).toNat (gt x1 (w64 (a3 + x2)))).length c_1), (2, .int .i64 a2), (3, .int .i64 a3), (9, .int .i64 (w64 ((w64 (2 * x2)) + 1)))] ∧ St w0 F0 [Zf 70 (.int .u32) ((x1.set (w64 (a3 + x2)).toNat (gt x1 (w64 (a3 + (w64 ((w64 (2 * x2)) + 1)))))).set (w64 (a3 + (w64 ((w64 (2 * x2)) + 1)))).toNat (gt x1 (w64 (a3 + x2)))) (.slice A1 ((x1.set (w64 (a3 + x2)).toNat (gt x1 (w64 (a3 + (w64 ((w64 (2 * x2)) + 1)))))).set (w64 (a3 + (w64 ((w64 (2 * x2)) + 1)))).toNat (gt x1 (w64 (a3 + x2)))).length c_1)] [] w) ?_ ?_))
   ·refine J.heldSt mix (h16.only [] rfl) ?_
    have h19 := h16.drew
    refine HJ.run Za rfl [0, 1, 2, 3, 4, 5, 6, 7, 8, 9, 10, 11, 14, 15, 16, 17] rfl (HJ.q (i := 12) rfl rfl rfl rfl rfl rfl (Zk Za rfl rfl rfl rfl rfl e2 p1 p2) (HJ.q (i := 18) rfl rfl rfl rfl rfl rfl (Zk Za rfl rfl rfl rfl rfl e2 p9 p10) (HJ.pick [13, 19] (i := 13) rfl rfl rfl rfl ((Zs ?_ (Zs ?_ Z4))))))
    ·refine HS.op (i := 13) rfl rfl rfl (OpT.ofq (Ze (f := 0) Za rfl h19.wht (Gives.of 0 rfl Zl) p1 p2 rfl rfl rfl rfl rfl)) ?_
     rintro _ _ ⟨rfl, rfl⟩
     replace h19 : St w0 F0 [_] _ _ := h19
     refine ⟨⟨[_], h19⟩, ?_⟩
     refine HJ.op (i := 19) rfl rfl rfl rfl rfl (OpT.ofq (Ze (f := 0) Za rfl h19.wht (Gives.of 0 rfl Zl) p9 p10 rfl rfl rfl rfl rfl)) ?_
     rintro _ _ ⟨rfl, rfl⟩
     replace h19 : St w0 F0 [_] _ _ := h19
     refine ⟨⟨[_], h19⟩, ?_⟩
     refine HJ.q (i := 20) rfl rfl rfl rfl rfl rfl (Zk Za rfl rfl rfl rfl rfl e2 p9 p10) (HJ.op (i := 21) rfl rfl rfl rfl rfl (Zp (ty := (.int .u32)) (f := 0) (ix := (w64 (a3 + x2))) Za rfl (gt x1 (w64 (a3 + (w64 ((w64 (2 * x2)) + 1))))) 0 rfl h19 rfl rfl p9 p10 rfl rfl rfl rfl rfl rfl rfl) ?_)
     intro _ w14 h20
     replace h20 : St w0 F0 [Zf 70 (.int .u32) (x1.set (w64 (a3 + x2)).toNat (gt x1 (w64 (a3 + (w64 ((w64 (2 * x2)) + 1)))))) (.slice A1 (x1.set (w64 (a3 + x2)).toNat (gt x1 (w64 (a3 + (w64 ((w64 (2 * x2)) + 1)))))).length c_1)] _ _ := h20
     refine ⟨⟨[_], h20⟩, ?_⟩
     have e12 : (x1.set (w64 (a3 + x2)).toNat (gt x1 (w64 (a3 + (w64 ((w64 (2 * x2)) + 1)))))).length = a0.length := List.length_set.trans e1
     refine HJ.q (i := 22) rfl rfl rfl rfl rfl rfl (Zk Za rfl rfl rfl rfl rfl e2 p1 p2) (HJ.op (i := 23) rfl rfl rfl rfl rfl (Zp (ty := (.int .u32)) (f := 0) (ix := (w64 (a3 + (w64 ((w64 (2 * x2)) + 1))))) Za rfl (gt x1 (w64 (a3 + x2))) 0 rfl h20 rfl rfl p1 (by simpa only [List.length_set] using p2) rfl rfl rfl rfl rfl rfl rfl) ?_)
     intro _ w15 h21
     replace h21 : St w0 F0 [Zf 70 (.int .u32) ((x1.set (w64 (a3 + x2)).toNat (gt x1 (w64 (a3 + (w64 ((w64 (2 * x2)) + 1)))))).set (w64 (a3 + (w64 ((w64 (2 * x2)) + 1)))).toNat (gt x1 (w64 (a3 + x2)))) (.slice A1 ((x1.set (w64 (a3 + x2)).toNat (gt x1 (w64 (a3 + (w64 ((w64 (2 * x2)) + 1)))))).set (w64 (a3 + (w64 ((w64 (2 * x2)) + 1)))).toNat (gt x1 (w64 (a3 + x2)))).length c_1)] _ _ := h21
     refine ⟨⟨[_], h21⟩, ?_⟩
     have e13 : ((x1.set (w64 (a3 + x2)).toNat (gt x1 (w64 (a3 + (w64 ((w64 (2 * x2)) + 1)))))).set (w64 (a3 + (w64 ((w64 (2 * x2)) + 1)))).toNat (gt x1 (w64 (a3 + x2)))).length = a0.length := List.length_set.trans e12
     refine HJ.fin [(0, .slice A1 x1.length c_1), (2, .int .i64 a2), (3, .int .i64 a3), (9, .int .i64 (w64 ((w64 (2 * x2)) + 1)))] rfl rfl ?_
     exact Zq ⟨(by simp only [List.length_set]), ((h21.only [0] rfl).rds [] rfl)⟩
    ·refine HS.op (i := 19) rfl rfl rfl (OpT.ofq (Ze (f := 0) Za rfl h19.wht (Gives.of 0 rfl Zl) p9 p10 rfl rfl rfl rfl rfl)) ?_
     rintro _ _ ⟨rfl, rfl⟩
     replace h19 : St w0 F0 [_] _ _ := h19
     refine ⟨⟨[_], h19⟩, ?_⟩
     refine HJ.op (i := 13) rfl rfl rfl rfl rfl (OpT.ofq (Ze (f := 0) Za rfl h19.wht (Gives.of 0 rfl Zl) p1 p2 rfl rfl rfl rfl rfl)) ?_
     rintro _ _ ⟨rfl, rfl⟩
     replace h19 : St w0 F0 [_] _ _ := h19
     refine ⟨⟨[_], h19⟩, ?_⟩
     refine HJ.q (i := 20) rfl rfl rfl rfl rfl rfl (Zk Za rfl rfl rfl rfl rfl e2 p9 p10) (HJ.op (i := 21) rfl rfl rfl rfl rfl (Zp (ty := (.int .u32)) (f := 0) (ix := (w64 (a3 + x2))) Za rfl (gt x1 (w64 (a3 + (w64 ((w64 (2 * x2)) + 1))))) 0 rfl h19 rfl rfl p9 p10 rfl rfl rfl rfl rfl rfl rfl) ?_)
     intro _ w16 h22
     replace h22 : St w0 F0 [Zf 70 (.int .u32) (x1.set (w64 (a3 + x2)).toNat (gt x1 (w64 (a3 + (w64 ((w64 (2 * x2)) + 1)))))) (.slice A1 (x1.set (w64 (a3 + x2)).toNat (gt x1 (w64 (a3 + (w64 ((w64 (2 * x2)) + 1)))))).length c_1)] _ _ := h22
     refine ⟨⟨[_], h22⟩, ?_⟩
     have e14 : (x1.set (w64 (a3 + x2)).toNat (gt x1 (w64 (a3 + (w64 ((w64 (2 * x2)) + 1)))))).length = a0.length := List.length_set.trans e1
     refine HJ.q (i := 22) rfl rfl rfl rfl rfl rfl (Zk Za rfl rfl rfl rfl rfl e2 p1 p2) (HJ.op (i := 23) rfl rfl rfl rfl rfl (Zp (ty := (.int .u32)) (f := 0) (ix := (w64 (a3 + (w64 ((w64 (2 * x2)) + 1))))) Za rfl (gt x1 (w64 (a3 + x2))) 0 rfl h22 rfl rfl p1 (by simpa only [List.length_set] using p2) rfl rfl rfl rfl rfl rfl rfl) ?_)
     intro _ w17 h23
     replace h23 : St w0 F0 [Zf 70 (.int .u32) ((x1.set (w64 (a3 + x2)).toNat (gt x1 (w64 (a3 + (w64 ((w64 (2 * x2)) + 1)))))).set (w64 (a3 + (w64 ((w64 (2 * x2)) + 1)))).toNat (gt x1 (w64 (a3 + x2)))) (.slice A1 ((x1.set (w64 (a3 + x2)).toNat (gt x1 (w64 (a3 + (w64 ((w64 (2 * x2)) + 1)))))).set (w64 (a3 + (w64 ((w64 (2 * x2)) + 1)))).toNat (gt x1 (w64 (a3 + x2)))).length c_1)] _ _ := h23
     refine ⟨⟨[_], h23⟩, ?_⟩
     have e15 : ((x1.set (w64 (a3 + x2)).toNat (gt x1 (w64 (a3 + (w64 ((w64 (2 * x2)) + 1)))))).set (w64 (a3 + (w64 ((w64 (2 * x2)) + 1)))).toNat (gt x1 (w64 (a3 + x2)))).length = a0.length := List.length_set.trans e14
     refine HJ.fin [(0, .slice A1 x1.length c_1), (2, .int .i64 a2), (3, .int .i64 a3), (9, .int .i64 (w64 ((w64 (2 * x2)) + 1)))] rfl rfl ?_
     exact Zq ⟨(by simp only [List.length_set]), ((h23.only [0] rfl).rds [] rfl)⟩
   rintro env w18 ⟨rfl, h24⟩
   have e16 : ((x1.set (w64 (a3 + x2)).toNat (gt x1 (w64 (a3 + (w64 ((w64 (2 * x2)) + 1)))))).set (w64 (a3 + (w64 ((w64 (2 * x2)) + 1)))).toNat (gt x1 (w64 (a3 + x2)))).length = a0.length := by first | (simp only [List.length_set]; done) | (simp only [List.length_set]; exact e1)
   refine J.region (RJ.run Za 2 rfl (RJ.fin [(0, .slice A1 ((x1.set (w64 (a3 + x2)).toNat (gt x1 (w64 (a3 + (w64 ((w64 (2 * x2)) + 1)))))).set (w64 (a3 + (w64 ((w64 (2 * x2)) + 1)))).toNat (gt x1 (w64 (a3 + x2)))).length c_1), (2, _), (3, _), (8, .int .i64 (w64 ((w64 (2 * x2)) + 1)))] rfl ?_))
   have h25 := ((h24.only [0] rfl).rds [] rfl)
   exact ⟨k1, by omega, ((x1.set (w64 (a3 + x2)).toNat (gt x1 (w64 (a3 + (w64 ((w64 (2 * x2)) + 1)))))).set (w64 (a3 + (w64 ((w64 (2 * x2)) + 1)))).toNat (gt x1 (w64 (a3 + x2)))), (w64 ((w64 (2 * x2)) + 1)), rfl, h25, H, e16⟩
  replace H := Zg c2 H
  refine HJ.know (t := 21) rfl (congrArg Value.bool c2) (HJ.run Za rfl [5, 6, 7, 8, 9, 10, 11, 12, 13, 14, 15, 16, 17, 18, 19] rfl (HJ.fin [(0, _), (2, _), (3, _), (8, _), (9, _), (36, .bool false)] rfl rfl (J.condF rfl (J.skip (J.seq (J.seq ?_))))))
  refine J.heldSt mix h2 ?_
  have h26 := h2.drew
  refine HJ.run Za rfl [0, 1, 2, 3, 6, 7, 8, 9] rfl ?_
  obtain ⟨⟨p11, p12⟩, H⟩ := Zo H
  have e17 := Zy h26.wh (Gives.of 0 rfl Zl) p11 p12
  refine HJ.q (i := 4) rfl rfl rfl rfl rfl rfl (Zk Za rfl rfl rfl rfl rfl e17 p11 p12) (HJ.q (i := 5) rfl rfl rfl rfl rfl rfl (Ze (f := 0) Za rfl (fun w e => e) (Gives.of 0 rfl Zl) p11 p12 rfl rfl rfl rfl rfl) ?_)
  obtain ⟨⟨p13, p14⟩, H⟩ := Zo H
  refine HJ.q (i := 10) rfl rfl rfl rfl rfl rfl (Zk Za rfl rfl rfl rfl rfl e17 p13 p14) (HJ.q (i := 11) rfl rfl rfl rfl rfl rfl (Ze (f := 0) Za rfl (fun w e => e) (Gives.of 0 rfl Zl) p13 p14 rfl rfl rfl rfl rfl) ?_)
  obtain ⟨r4, q4, H⟩ := Zj H
  refine HJ.op (i := 12) rfl rfl rfl rfl rfl (Zd [] (Q4.spec q4) rfl rfl rfl h26 rfl Zm) ?_
  rintro _ w19 ⟨_, ⟨rfl, rfl⟩, h27⟩
  replace h27 : St w0 F0 [_] _ _ := h27
  refine ⟨⟨[], h27⟩, ?_⟩
  refine HJ.run Za rfl [13] rfl (HJ.fin [(0, _), (2, _), (3, _), (8, _), (9, _), (52, .bool (!r4))] rfl rfl (J.cond rfl (fun c6 => ?_) (fun c6 => ?_)))
  ·replace H := Zi c6 H
   refine J.ret ?_
   obtain rfl := Option.some.inj H
   exact ⟨_, _, _, (Zb rfl), ⟨rfl, rfl, e1⟩, h27.only [0] rfl⟩
  replace H := Zg c6 H
  refine J.skip (J.seq (J.midS (fun env w => env = [(0, .slice A1 ((x1.set (w64 (a3 + x2)).toNat (gt x1 (w64 (a3 + (w64 ((w64 (2 * x2)) + 1)))))).set (w64 (a3 + (w64 ((w64 (2 * x2)) + 1)))).toNat (gt x1 (w64 (a3 + x2)))).length c_1), (2, .int .i64 a2), (3, .int .i64 a3), (9, .int .i64 (w64 ((w64 (2 * x2)) + 1)))] ∧ St w0 F0 [Zf 70 (.int .u32) ((x1.set (w64 (a3 + x2)).toNat (gt x1 (w64 (a3 + (w64 ((w64 (2 * x2)) + 1)))))).set (w64 (a3 + (w64 ((w64 (2 * x2)) + 1)))).toNat (gt x1 (w64 (a3 + x2)))) (.slice A1 ((x1.set (w64 (a3 + x2)).toNat (gt x1 (w64 (a3 + (w64 ((w64 (2 * x2)) + 1)))))).set (w64 (a3 + (w64 ((w64 (2 * x2)) + 1)))).toNat (gt x1 (w64 (a3 + x2)))).length c_1)] [] w) ?_ ?_))
  ·refine J.heldSt mix (h27.only [] rfl) ?_
   have h30 := h27.drew
   refine HJ.run Za rfl [0, 1, 2, 3, 4, 5, 6, 7, 8, 9, 10, 11, 14, 15, 16, 17] rfl (HJ.q (i := 12) rfl rfl rfl rfl rfl rfl (Zk Za rfl rfl rfl rfl rfl e17 p13 p14) (HJ.q (i := 18) rfl rfl rfl rfl rfl rfl (Zk Za rfl rfl rfl rfl rfl e17 p11 p12) (HJ.pick [13, 19] (i := 13) rfl rfl rfl rfl ((Zs ?_ (Zs ?_ Z4))))))
   ·refine HS.op (i := 13) rfl rfl rfl (OpT.ofq (Ze (f := 0) Za rfl h30.wht (Gives.of 0 rfl Zl) p13 p14 rfl rfl rfl rfl rfl)) ?_
    rintro _ _ ⟨rfl, rfl⟩
    replace h30 : St w0 F0 [_] _ _ := h30
    refine ⟨⟨[_], h30⟩, ?_⟩
    refine HJ.op (i := 19) rfl rfl rfl rfl rfl (OpT.ofq (Ze (f := 0) Za rfl h30.wht (Gives.of 0 rfl Zl) p11 p12 rfl rfl rfl rfl rfl)) ?_
    rintro _ _ ⟨rfl, rfl⟩
    replace h30 : St w0 F0 [_] _ _ := h30
    refine ⟨⟨[_], h30⟩, ?_⟩
    refine HJ.q (i := 20) rfl rfl rfl rfl rfl rfl (Zk Za rfl rfl rfl rfl rfl e17 p11 p12) (HJ.op (i := 21) rfl rfl rfl rfl rfl (Zp (ty := (.int .u32)) (f := 0) (ix := (w64 (a3 + x2))) Za rfl (gt x1 (w64 (a3 + (w64 ((w64 (2 * x2)) + 1))))) 0 rfl h30 rfl rfl p11 p12 rfl rfl rfl rfl rfl rfl rfl) ?_)
    intro _ w22 h31
    replace h31 : St w0 F0 [Zf 70 (.int .u32) (x1.set (w64 (a3 + x2)).toNat (gt x1 (w64 (a3 + (w64 ((w64 (2 * x2)) + 1)))))) (.slice A1 (x1.set (w64 (a3 + x2)).toNat (gt x1 (w64 (a3 + (w64 ((w64 (2 * x2)) + 1)))))).length c_1)] _ _ := h31
    refine ⟨⟨[_], h31⟩, ?_⟩
    have e20 : (x1.set (w64 (a3 + x2)).toNat (gt x1 (w64 (a3 + (w64 ((w64 (2 * x2)) + 1)))))).length = a0.length := List.length_set.trans e1
    refine HJ.q (i := 22) rfl rfl rfl rfl rfl rfl (Zk Za rfl rfl rfl rfl rfl e17 p13 p14) (HJ.op (i := 23) rfl rfl rfl rfl rfl (Zp (ty := (.int .u32)) (f := 0) (ix := (w64 (a3 + (w64 ((w64 (2 * x2)) + 1))))) Za rfl (gt x1 (w64 (a3 + x2))) 0 rfl h31 rfl rfl p13 (by simpa only [List.length_set] using p14) rfl rfl rfl rfl rfl rfl rfl) ?_)
    intro _ w23 h32
    replace h32 : St w0 F0 [Zf 70 (.int .u32) ((x1.set (w64 (a3 + x2)).toNat (gt x1 (w64 (a3 + (w64 ((w64 (2 * x2)) + 1)))))).set (w64 (a3 + (w64 ((w64 (2 * x2)) + 1)))).toNat (gt x1 (w64 (a3 + x2)))) (.slice A1 ((x1.set (w64 (a3 + x2)).toNat (gt x1 (w64 (a3 + (w64 ((w64 (2 * x2)) + 1)))))).set (w64 (a3 + (w64 ((w64 (2 * x2)) + 1)))).toNat (gt x1 (w64 (a3 + x2)))).length c_1)] _ _ := h32
    refine ⟨⟨[_], h32⟩, ?_⟩
    have e21 : ((x1.set (w64 (a3 + x2)).toNat (gt x1 (w64 (a3 + (w64 ((w64 (2 * x2)) + 1)))))).set (w64 (a3 + (w64 ((w64 (2 * x2)) + 1)))).toNat (gt x1 (w64 (a3 + x2)))).length = a0.length := List.length_set.trans e20
    refine HJ.fin [(0, .slice A1 x1.length c_1), (2, .int .i64 a2), (3, .int .i64 a3), (9, .int .i64 (w64 ((w64 (2 * x2)) + 1)))] rfl rfl ?_
    exact Zq ⟨(by simp only [List.length_set]), ((h32.only [0] rfl).rds [] rfl)⟩
   ·refine HS.op (i := 19) rfl rfl rfl (OpT.ofq (Ze (f := 0) Za rfl h30.wht (Gives.of 0 rfl Zl) p11 p12 rfl rfl rfl rfl rfl)) ?_
    rintro _ _ ⟨rfl, rfl⟩
    replace h30 : St w0 F0 [_] _ _ := h30
    refine ⟨⟨[_], h30⟩, ?_⟩
    refine HJ.op (i := 13) rfl rfl rfl rfl rfl (OpT.ofq (Ze (f := 0) Za rfl h30.wht (Gives.of 0 rfl Zl) p13 p14 rfl rfl rfl rfl rfl)) ?_
    rintro _ _ ⟨rfl, rfl⟩
    replace h30 : St w0 F0 [_] _ _ := h30
    refine ⟨⟨[_], h30⟩, ?_⟩
    refine HJ.q (i := 20) rfl rfl rfl rfl rfl rfl (Zk Za rfl rfl rfl rfl rfl e17 p11 p12) (HJ.op (i := 21) rfl rfl rfl rfl rfl (Zp (ty := (.int .u32)) (f := 0) (ix := (w64 (a3 + x2))) Za rfl (gt x1 (w64 (a3 + (w64 ((w64 (2 * x2)) + 1))))) 0 rfl h30 rfl rfl p11 p12 rfl rfl rfl rfl rfl rfl rfl) ?_)
    intro _ w24 h33
    replace h33 : St w0 F0 [Zf 70 (.int .u32) (x1.set (w64 (a3 + x2)).toNat (gt x1 (w64 (a3 + (w64 ((w64 (2 * x2)) + 1)))))) (.slice A1 (x1.set (w64 (a3 + x2)).toNat (gt x1 (w64 (a3 + (w64 ((w64 (2 * x2)) + 1)))))).length c_1)] _ _ := h33
    refine ⟨⟨[_], h33⟩, ?_⟩
    have e22 : (x1.set (w64 (a3 + x2)).toNat (gt x1 (w64 (a3 + (w64 ((w64 (2 * x2)) + 1)))))).length = a0.length := List.length_set.trans e1
    refine HJ.q (i := 22) rfl rfl rfl rfl rfl rfl (Zk Za rfl rfl rfl rfl rfl e17 p13 p14) (HJ.op (i := 23) rfl rfl rfl rfl rfl (Zp (ty := (.int .u32)) (f := 0) (ix := (w64 (a3 + (w64 ((w64 (2 * x2)) + 1))))) Za rfl (gt x1 (w64 (a3 + x2))) 0 rfl h33 rfl rfl p13 (by simpa only [List.length_set] using p14) rfl rfl rfl rfl rfl rfl rfl) ?_)
    intro _ w25 h34
    replace h34 : St w0 F0 [Zf 70 (.int .u32) ((x1.set (w64 (a3 + x2)).toNat (gt x1 (w64 (a3 + (w64 ((w64 (2 * x2)) + 1)))))).set (w64 (a3 + (w64 ((w64 (2 * x2)) + 1)))).toNat (gt x1 (w64 (a3 + x2)))) (.slice A1 ((x1.set (w64 (a3 + x2)).toNat (gt x1 (w64 (a3 + (w64 ((w64 (2 * x2)) + 1)))))).set (w64 (a3 + (w64 ((w64 (2 * x2)) + 1)))).toNat (gt x1 (w64 (a3 + x2)))).length c_1)] _ _ := h34
    refine ⟨⟨[_], h34⟩, ?_⟩
    have e23 : ((x1.set (w64 (a3 + x2)).toNat (gt x1 (w64 (a3 + (w64 ((w64 (2 * x2)) + 1)))))).set (w64 (a3 + (w64 ((w64 (2 * x2)) + 1)))).toNat (gt x1 (w64 (a3 + x2)))).length = a0.length := List.length_set.trans e22
    refine HJ.fin [(0, .slice A1 x1.length c_1), (2, .int .i64 a2), (3, .int .i64 a3), (9, .int .i64 (w64 ((w64 (2 * x2)) + 1)))] rfl rfl ?_
    exact Zq ⟨(by simp only [List.length_set]), ((h34.only [0] rfl).rds [] rfl)⟩
  rintro env w26 ⟨rfl, h35⟩
  have e24 : ((x1.set (w64 (a3 + x2)).toNat (gt x1 (w64 (a3 + (w64 ((w64 (2 * x2)) + 1)))))).set (w64 (a3 + (w64 ((w64 (2 * x2)) + 1)))).toNat (gt x1 (w64 (a3 + x2)))).length = a0.length := by first | (simp only [List.length_set]; done) | (simp only [List.length_set]; exact e1)
  refine J.region (RJ.run Za 2 rfl (RJ.fin [(0, .slice A1 ((x1.set (w64 (a3 + x2)).toNat (gt x1 (w64 (a3 + (w64 ((w64 (2 * x2)) + 1)))))).set (w64 (a3 + (w64 ((w64 (2 * x2)) + 1)))).toNat (gt x1 (w64 (a3 + x2)))).length c_1), (2, _), (3, _), (8, .int .i64 (w64 ((w64 (2 * x2)) + 1)))] rfl ?_))
  have h36 := ((h35.only [0] rfl).rds [] rfl)
  exact ⟨k1, by omega, ((x1.set (w64 (a3 + x2)).toNat (gt x1 (w64 (a3 + (w64 ((w64 (2 * x2)) + 1)))))).set (w64 (a3 + (w64 ((w64 (2 * x2)) + 1)))).toNat (gt x1 (w64 (a3 + x2)))), (w64 ((w64 (2 * x2)) + 1)), rfl, h36, H, e24⟩

def Q52.l1 : Nat → (Int) → (List (Int)) → (Int) → Option (List (Int))
 | 0, _, _, _ => none
 | k + 1, a1, x3, x4 => if (decide (0 ≤ x4)) = true then (if 0 ≤ (w64 (a1 + x4)) ∧ (w64 (a1 + x4)) < (x3.length : Int) then (if 0 ≤ a1 ∧ a1 < (x3.length : Int) then ((Q63.f k ((x3.set a1.toNat (gt x3 (w64 (a1 + x4)))).set (w64 (a1 + x4)).toNat (gt x3 a1)) 0 x4 a1).bind fun r2 => (Q52.l1 k a1 r2 (w64 (x4 - 1)))) else none) else none) else (some x3)
def Q52.l0 : Nat → (Int) → (Int) → (List (Int)) → (Int) → Option (List (Int))
 | 0, _, _, _, _ => none
 | k + 1, a1, a2, x1, x2 => if (decide (0 ≤ x2)) = true then ((Q63.f k x1 x2 (w64 (a2 - a1)) a1).bind fun r1 => (Q52.l0 k a1 a2 r1 (w64 (x2 - 1)))) else (Q52.l1 k a1 x1 (w64 ((w64 (a2 - a1)) - 1)))
def Q52.f (k : Nat) (a0 : List (Int)) (a1 : Int) (a2 : Int) : Option (List (Int)) := Q52.l0 k a1 a2 a0 (w64 (Int.tdiv (w64 ((w64 (a2 - a1)) - 1)) 2))
theorem Q52.spec {k : Nat} {a0 : List (Int)} {a1 : Int} {a2 : Int} {A1 : Option Addr} {c_1 : Nat} {r : List (Int)} (H : Q52.f k a0 a1 a2 = some r) :
  Spec Tryz.prog 101 [.slice A1 a0.length c_1, .int .i64 a1, .int .i64 a2] [Zf 70 (.int .u32) a0 (.slice A1 a0.length c_1)] [] (fun v l => v = .tuple #[] ∧ l = [Zf 70 (.int .u32) r (.slice A1 r.length c_1)] ∧ r.length = a0.length) := by
 refine Spec.enter Tryz.func101 rfl (by kernel_rfl) (by kernel_rfl) fun w0 F0 h0 => ?_
 unfold Q52.f at H
 refine J.seq (J.region ?_)
 refine RJ.run Za 2 rfl (RJ.fin [(0, .slice A1 a0.length c_1), (1, .int .i64 a1), (2, .int .i64 a2), (6, .int .i64 a1)] rfl (J.seq (J.region ?_)))
 refine RJ.run Za 1 rfl (RJ.fin [(0, _), (1, _), (2, _), (6, _), (7, .int .i64 0)] rfl (J.seq (J.region ?_)))
 refine RJ.run Za 4 rfl (RJ.fin [(0, _), (6, _), (7, _), (8, .int .i64 (w64 (a2 - a1)))] rfl (J.seq (J.seq (J.region ?_))))
 refine RJ.run Za 4 rfl (RJ.fin [(0, _), (6, _), (7, _), (8, _), (9, .int .i64 (w64 (Int.tdiv (w64 ((w64 (a2 - a1)) - 1)) 2)))] rfl (J.block ?_))
 have h16 := ((h0.only [0] rfl).rds [] rfl)
 refine J.loop (fun kk env w => ∃ (x1 : List (Int)) (x2 : Int), env = [(0, .slice A1 x1.length c_1), (6, .int .i64 a1), (7, .int .i64 0), (8, .int .i64 (w64 (a2 - a1))), (9, .int .i64 x2)] ∧ St w0 F0 [Zf 70 (.int .u32) x1 (.slice A1 x1.length c_1)] [] w ∧ Q52.l0 kk a1 a2 x1 x2 = some r ∧ x1.length = a0.length) (k := k) ⟨a0, (w64 (Int.tdiv (w64 ((w64 (a2 - a1)) - 1)) 2)), rfl, h16, H, (rfl : a0.length = a0.length)⟩ ?_
 rintro k1 env w1 ⟨x1, x2, rfl, h1, H, e1⟩
 cases k1 with
 | zero => exact nomatch (show none = some r from H)
 | succ k1 =>
  rw [Q52.l0] at H
  refine J.seq (J.seq (J.region ?_))
  refine RJ.run Za 2 rfl (RJ.fin [(0, _), (6, _), (7, _), (8, _), (9, _), (19, .bool (decide (0 ≤ x2)))] rfl (J.cond rfl (fun c1 => ?_) (fun c1 => ?_)))
  ·replace H := Zi c1 H
   refine J.skip (J.seq (J.block (J.region ?_)))
   refine RJ.run Za 4 rfl ?_
   obtain ⟨r1, q1, H⟩ := Zj H
   refine RJ.op rfl rfl (Zd [0] (Q63.spec q1) rfl rfl rfl h1 rfl Zm) ?_
   rintro _ w2 ⟨_, ⟨rfl, rfl, q2⟩, h2⟩
   replace h2 : St w0 F0 [Zf 70 (.int .u32) r1 (.slice A1 r1.length c_1)] _ _ := h2
   have e2 : r1.length = a0.length := q2.trans e1
   refine RJ.fin [(0, _), (6, _), (7, _), (8, _), (9, _)] rfl (J.envEq (env' := [(0, .slice A1 r1.length c_1), (6, .int .i64 a1), (7, .int .i64 0), (8, .int .i64 (w64 (a2 - a1))), (9, .int .i64 x2)]) (by simp only [q2]) (J.region (RJ.run Za 3 rfl (RJ.fin [(0, _), (6, _), (7, _), (8, _), (9, .int .i64 (w64 (x2 - 1)))] rfl ?_))))
   have h3 := ((h2.only [0] rfl).rds [] rfl)
   exact ⟨k1, by omega, r1, (w64 (x2 - 1)), rfl, h3, H, e2⟩
  replace H := Zg c1 H
  refine J.exit (J.seq (J.region ?_))
  refine RJ.run Za 3 rfl (RJ.fin [(0, _), (6, _), (7, _), (10, .int .i64 (w64 ((w64 (a2 - a1)) - 1)))] rfl (J.block ?_))
  have h15 := ((h1.only [0] rfl).rds [] rfl)
  refine J.loop (fun kk env w => ∃ (x3 : List (Int)) (x4 : Int), env = [(0, .slice A1 x3.length c_1), (6, .int .i64 a1), (7, .int .i64 0), (10, .int .i64 x4)] ∧ St w0 F0 [Zf 70 (.int .u32) x3 (.slice A1 x3.length c_1)] [] w ∧ Q52.l1 kk a1 x3 x4 = some r ∧ x3.length = a0.length) (k := k1) ⟨x1, (w64 ((w64 (a2 - a1)) - 1)), rfl, h15, H, e1⟩ ?_
  rintro k2 env w3 ⟨x3, x4, rfl, h4, H, e3⟩
  cases k2 with
  | zero => exact nomatch (show none = some r from H)
  | succ k2 =>
   rw [Q52.l1] at H
   refine J.seq (J.seq (J.region ?_))
   refine RJ.run Za 2 rfl (RJ.fin [(0, _), (6, _), (7, _), (10, _), (30, .bool (decide (0 ≤ x4)))] rfl (J.cond rfl (fun c2 => ?_) (fun c2 => ?_)))
   ·replace H := Zi c2 H
    refine J.skip (J.seq (J.block (J.seq ?_)))
    obtain ⟨⟨p1, p2⟩, H⟩ := Zo H
    obtain ⟨⟨p3, p4⟩, H⟩ := Zo H
    refine J.midS (fun env w => env = [(0, .slice A1 ((x3.set a1.toNat (gt x3 (w64 (a1 + x4)))).set (w64 (a1 + x4)).toNat (gt x3 a1)).length c_1), (6, .int .i64 a1), (7, .int .i64 0), (10, .int .i64 x4)] ∧ St w0 F0 [Zf 70 (.int .u32) ((x3.set a1.toNat (gt x3 (w64 (a1 + x4)))).set (w64 (a1 + x4)).toNat (gt x3 a1)) (.slice A1 ((x3.set a1.toNat (gt x3 (w64 (a1 + x4)))).set (w64 (a1 + x4)).toNat (gt x3 a1)).length c_1)] [] w) ?_ ?_
    ·refine J.heldSt mix (h4.only [] rfl) ?_
     have h7 := h4.drew
     refine HJ.run Za rfl [0, 1, 2, 3, 4, 5, 6, 7, 8, 9, 12, 13] rfl ?_
     have e7 := Zy h7.wh (Gives.of 0 rfl Zl) p1 p2
     refine HJ.q (i := 10) rfl rfl rfl rfl rfl rfl (Zk Za rfl rfl rfl rfl rfl e7 p1 p2) (HJ.q (i := 14) rfl rfl rfl rfl rfl rfl (Zk Za rfl rfl rfl rfl rfl e7 p3 p4) (HJ.pick [11, 15] (i := 11) rfl rfl rfl rfl ((Zs ?_ (Zs ?_ Z4)))))
     ·refine HS.op (i := 11) rfl rfl rfl (OpT.ofq (Ze (f := 0) Za rfl h7.wht (Gives.of 0 rfl Zl) p1 p2 rfl rfl rfl rfl rfl)) ?_
      rintro _ _ ⟨rfl, rfl⟩
      replace h7 : St w0 F0 [_] _ _ := h7
      refine ⟨⟨[_], h7⟩, ?_⟩
      refine HJ.op (i := 15) rfl rfl rfl rfl rfl (OpT.ofq (Ze (f := 0) Za rfl h7.wht (Gives.of 0 rfl Zl) p3 p4 rfl rfl rfl rfl rfl)) ?_
      rintro _ _ ⟨rfl, rfl⟩
      replace h7 : St w0 F0 [_] _ _ := h7
      refine ⟨⟨[_], h7⟩, ?_⟩
      refine HJ.q (i := 16) rfl rfl rfl rfl rfl rfl (Zk Za rfl rfl rfl rfl rfl e7 p3 p4) (HJ.op (i := 17) rfl rfl rfl rfl rfl (Zp (ty := (.int .u32)) (f := 0) (ix := a1) Za rfl (gt x3 (w64 (a1 + x4))) 0 rfl h7 rfl rfl p3 p4 rfl rfl rfl rfl rfl rfl rfl) ?_)
      intro _ w6 h8
      replace h8 : St w0 F0 [Zf 70 (.int .u32) (x3.set a1.toNat (gt x3 (w64 (a1 + x4)))) (.slice A1 (x3.set a1.toNat (gt x3 (w64 (a1 + x4)))).length c_1)] _ _ := h8
      refine ⟨⟨[_], h8⟩, ?_⟩
      have e8 : (x3.set a1.toNat (gt x3 (w64 (a1 + x4)))).length = a0.length := List.length_set.trans e3
      refine HJ.q (i := 18) rfl rfl rfl rfl rfl rfl (Zk Za rfl rfl rfl rfl rfl e7 p1 p2) (HJ.op (i := 19) rfl rfl rfl rfl rfl (Zp (ty := (.int .u32)) (f := 0) (ix := (w64 (a1 + x4))) Za rfl (gt x3 a1) 0 rfl h8 rfl rfl p1 (by simpa only [List.length_set] using p2) rfl rfl rfl rfl rfl rfl rfl) ?_)
      intro _ w7 h9
      replace h9 : St w0 F0 [Zf 70 (.int .u32) ((x3.set a1.toNat (gt x3 (w64 (a1 + x4)))).set (w64 (a1 + x4)).toNat (gt x3 a1)) (.slice A1 ((x3.set a1.toNat (gt x3 (w64 (a1 + x4)))).set (w64 (a1 + x4)).toNat (gt x3 a1)).length c_1)] _ _ := h9
      refine ⟨⟨[_], h9⟩, ?_⟩
      have e9 : ((x3.set a1.toNat (gt x3 (w64 (a1 + x4)))).set (w64 (a1 + x4)).toNat (gt x3 a1)).length = a0.length := List.length_set.trans e8
      refine HJ.fin [(0, .slice A1 x3.length c_1), (6, .int .i64 a1), (7, .int .i64 0), (10, .int .i64 x4)] rfl rfl ?_
      exact Zq ⟨(by simp only [List.length_set]), ((h9.only [0] rfl).rds [] rfl)⟩
     ·refine HS.op (i := 15) rfl rfl rfl (OpT.ofq (Ze (f := 0) Za rfl h7.wht (Gives.of 0 rfl Zl) p3 p4 rfl rfl rfl rfl rfl)) ?_
      rintro _ _ ⟨rfl, rfl⟩
      replace h7 : St w0 F0 [_] _ _ := h7
      refine ⟨⟨[_], h7⟩, ?_⟩
      refine HJ.op (i := 11) rfl rfl rfl rfl rfl (OpT.ofq (Ze (f := 0) Za rfl h7.wht (Gives.of 0 rfl Zl) p1 p2 rfl rfl rfl rfl rfl)) ?_
      rintro _ _ ⟨rfl, rfl⟩
      replace h7 : St w0 F0 [_] _ _ := h7
      refine ⟨⟨[_], h7⟩, ?_⟩
      refine HJ.q (i := 16) rfl rfl rfl rfl rfl rfl (Zk Za rfl rfl rfl rfl rfl e7 p3 p4) (HJ.op (i := 17) rfl rfl rfl rfl rfl (Zp (ty := (.int .u32)) (f := 0) (ix := a1) Za rfl (gt x3 (w64 (a1 + x4))) 0 rfl h7 rfl rfl p3 p4 rfl rfl rfl rfl rfl rfl rfl) ?_)
      intro _ w8 h10
      replace h10 : St w0 F0 [Zf 70 (.int .u32) (x3.set a1.toNat (gt x3 (w64 (a1 + x4)))) (.slice A1 (x3.set a1.toNat (gt x3 (w64 (a1 + x4)))).length c_1)] _ _ := h10
      refine ⟨⟨[_], h10⟩, ?_⟩
      have e10 : (x3.set a1.toNat (gt x3 (w64 (a1 + x4)))).length = a0.length := List.length_set.trans e3
      refine HJ.q (i := 18) rfl rfl rfl rfl rfl rfl (Zk Za rfl rfl rfl rfl rfl e7 p1 p2) (HJ.op (i := 19) rfl rfl rfl rfl rfl (Zp (ty := (.int .u32)) (f := 0) (ix := (w64 (a1 + x4))) Za rfl (gt x3 a1) 0 rfl h10 rfl rfl p1 (by simpa only [List.length_set] using p2) rfl rfl rfl rfl rfl rfl rfl) ?_)
      intro _ w9 h11
      replace h11 : St w0 F0 [Zf 70 (.int .u32) ((x3.set a1.toNat (gt x3 (w64 (a1 + x4)))).set (w64 (a1 + x4)).toNat (gt x3 a1)) (.slice A1 ((x3.set a1.toNat (gt x3 (w64 (a1 + x4)))).set (w64 (a1 + x4)).toNat (gt x3 a1)).length c_1)] _ _ := h11
      refine ⟨⟨[_], h11⟩, ?_⟩
      have e11 : ((x3.set a1.toNat (gt x3 (w64 (a1 + x4)))).set (w64 (a1 + x4)).toNat (gt x3 a1)).length = a0.length := List.length_set.trans e10
      refine HJ.fin [(0, .slice A1 x3.length c_1), (6, .int .i64 a1), (7, .int .i64 0), (10, .int .i64 x4)] rfl rfl ?_
      exact Zq ⟨(by simp only [List.length_set]), ((h11.only [0] rfl).rds [] rfl)⟩
    rintro env w10 ⟨rfl, h12⟩
    have e12 : ((x3.set a1.toNat (gt x3 (w64 (a1 + x4)))).set (w64 (a1 + x4)).toNat (gt x3 a1)).length = a0.length := by first | (simp only [List.length_set]; done) | (simp only [List.length_set]; exact e3)
    refine J.region (RJ.run Za 4 rfl ?_)
    obtain ⟨r2, q3, H⟩ := Zj H
    refine RJ.op rfl rfl (Zd [0] (Q63.spec q3) rfl rfl rfl h12 rfl Zm) ?_
    rintro _ w11 ⟨_, ⟨rfl, rfl, q4⟩, h13⟩
    replace h13 : St w0 F0 [Zf 70 (.int .u32) r2 (.slice A1 r2.length c_1)] _ _ := h13
    have e13 : r2.length = a0.length := q4.trans e12
    refine RJ.fin [(0, .slice A1 ((x3.set a1.toNat (gt x3 (w64 (a1 + x4)))).set (w64 (a1 + x4)).toNat (gt x3 a1)).length c_1), (6, _), (7, _), (10, _)] rfl (J.envEq (env' := [(0, .slice A1 r2.length c_1), (6, .int .i64 a1), (7, .int .i64 0), (10, .int .i64 x4)]) (by simp only [q4]) (J.region (RJ.run Za 3 rfl (RJ.fin [(0, _), (6, _), (7, _), (10, .int .i64 (w64 (x4 - 1)))] rfl ?_))))
    have h14 := ((h13.only [0] rfl).rds [] rfl)
    exact ⟨k2, by omega, r2, (w64 (x4 - 1)), rfl, h14, H, e13⟩
   replace H := Zg c2 H
   refine J.exit ?_
   obtain rfl := Option.some.inj H
   exact ⟨_, _, _, (Zb rfl), ⟨rfl, rfl, e3⟩, h4.only [0] rfl⟩

def Q57.f (a0 : List (Int)) (a1 : Int) (a2 : Int) (a3 : Int) : Option (Int × Int × Int) := if 0 ≤ a2 ∧ a2 < (a0.length : Int) then (if 0 ≤ a1 ∧ a1 < (a0.length : Int) then ((Q4.f (gt a0 a2) (gt a0 a1)).bind fun r1 => (if r1 = true then (some (a2, a1, (w64 (a3 + 1)))) else (some (a1, a2, a3)))) else none) else none
theorem Q57.spec {a0 : List (Int)} {a1 : Int} {a2 : Int} {a3 : Int} {A1 : Option Addr} {c_1 : Nat} {b1 : Nat} {r : Int × Int × Int} (H : Q57.f a0 a1 a2 a3 = some r) :
  Spec Tryz.prog 118 [.slice A1 a0.length c_1, .int .i64 a1, .int .i64 a2, .pointer (some ⟨b1, 0, none⟩)] [Zh b1 3 [.int .i64 a3]] [rdC 70 (.int .u32) a0 (.slice A1 a0.length c_1)] (fun v l => v = .tuple #[.int .i64 r.1, .int .i64 r.2.1] ∧ l = [Zh b1 3 [.int .i64 r.2.2]]) := by
 refine Spec.enter Tryz.func118 rfl (by kernel_rfl) (by kernel_rfl) fun w0 F0 h0 => ?_
 unfold Q57.f at H
 refine J.seq (J.region ?_)
 refine RJ.run Za 2 rfl (RJ.fin [(0, .slice A1 a0.length c_1), (1, .int .i64 a1), (2, .int .i64 a2), (3, .pointer (some ⟨b1, 0, none⟩))] rfl (J.seq (J.seq ?_)))
 refine J.heldSt mix h0 ?_
 have h1 := h0.drew
 refine HJ.run Za rfl [0, 1, 4, 5] rfl ?_
 obtain ⟨⟨p1, p2⟩, H⟩ := Zo H
 have e1 := Zy h1.wh (Gives.self 1 rfl) p1 p2
 refine HJ.q (i := 2) rfl rfl rfl rfl rfl rfl (Zk Za rfl rfl rfl rfl rfl e1 p1 p2) (HJ.q (i := 3) rfl rfl rfl rfl rfl rfl (Ze (f := 0) Za rfl (fun w e => e) (Gives.self 1 rfl) p1 p2 rfl rfl rfl rfl rfl) ?_)
 obtain ⟨⟨p3, p4⟩, H⟩ := Zo H
 refine HJ.q (i := 6) rfl rfl rfl rfl rfl rfl (Zk Za rfl rfl rfl rfl rfl e1 p3 p4) (HJ.q (i := 7) rfl rfl rfl rfl rfl rfl (Ze (f := 0) Za rfl (fun w e => e) (Gives.self 1 rfl) p3 p4 rfl rfl rfl rfl rfl) ?_)
 obtain ⟨r1, q1, H⟩ := Zj H
 refine HJ.op (i := 8) rfl rfl rfl rfl rfl (Zd [] (Q4.spec q1) rfl rfl rfl h1 rfl Zm) ?_
 rintro _ w1 ⟨_, ⟨rfl, rfl⟩, h2⟩
 replace h2 : St w0 F0 [Zh b1 3 [.int .i64 a3]] _ _ := h2
 refine ⟨⟨[], h2⟩, ?_⟩
 refine HJ.fin [(1, _), (2, _), (3, _), (18, .bool r1)] rfl rfl (J.cond rfl (fun c1 => ?_) (fun c1 => ?_))
 ·replace H := Zi c1 H
  refine J.seq (J.region ?_)
  refine RJ.run Za 2 rfl (RJ.q rfl rfl (Zc Za 0 h2.wht rfl rfl rfl rfl rfl) (RJ.run Za 2 rfl (RJ.op rfl rfl (Zt Za 0 rfl h2 rfl rfl rfl rfl rfl rfl rfl) ?_)))
  intro _ w2 h3
  replace h3 : St w0 F0 [Zh b1 3 [.int .i64 (w64 (a3 + 1))]] _ _ := h3
  refine RJ.fin [(1, _), (2, _)] rfl (J.seq (J.region ?_))
  refine RJ.run Za 4 rfl (RJ.fin [(8, .int .i64 a2), (9, .int .i64 a1)] rfl (J.ret ?_))
  obtain rfl := Option.some.inj H
  exact ⟨_, _, _, (Zb rfl), ⟨rfl, rfl⟩, h3.only [0] rfl⟩
 replace H := Zg c1 H
 refine J.skip (J.seq (J.region ?_))
 refine RJ.run Za 4 rfl (RJ.fin [(8, .int .i64 a1), (9, .int .i64 a2)] rfl (J.ret ?_))
 obtain rfl := Option.some.inj H
 exact ⟨_, _, _, (Zb rfl), ⟨rfl, rfl⟩, h2.only [0] rfl⟩

def Q55.f (a0 : List (Int)) (a1 : Int) (a2 : Int) (a3 : Int) (a4 : Int) : Option (Int × Int) := (Q57.f a0 a1 a2 a4).bind fun r1 => ((Q57.f a0 r1.2.1 a3 r1.2.2).bind fun r2 => ((Q57.f a0 r1.1 r2.1 r2.2.2).bind fun r3 => (some (r3.2.1, r3.2.2))))
theorem Q55.spec {a0 : List (Int)} {a1 : Int} {a2 : Int} {a3 : Int} {a4 : Int} {A1 : Option Addr} {c_1 : Nat} {b1 : Nat} {r : Int × Int} (H : Q55.f a0 a1 a2 a3 a4 = some r) :
  Spec Tryz.prog 116 [.slice A1 a0.length c_1, .int .i64 a1, .int .i64 a2, .int .i64 a3, .pointer (some ⟨b1, 0, none⟩)] [Zh b1 3 [.int .i64 a4]] [rdC 70 (.int .u32) a0 (.slice A1 a0.length c_1)] (fun v l => v = .int .i64 r.1 ∧ l = [Zh b1 3 [.int .i64 r.2]]) := by
 refine Spec.enter Tryz.func116 rfl (by kernel_rfl) (by kernel_rfl) fun w0 F0 h0 => ?_
 unfold Q55.f at H
 refine J.seq (J.region ?_)
 refine RJ.run Za 1 rfl (RJ.fin [(0, .slice A1 a0.length c_1), (1, .int .i64 a1), (2, .int .i64 a2), (3, .int .i64 a3), (4, .pointer (some ⟨b1, 0, none⟩))] rfl (J.seq (J.region ?_)))
 refine RJ.run Za 4 rfl ?_
 obtain ⟨r1, q1, H⟩ := Zj H
 refine RJ.op rfl rfl (Zd [0] (Q57.spec q1) rfl rfl rfl h0 rfl (Zr (Gives.self 0 rfl) Zm)) ?_
 rintro _ w1 ⟨_, ⟨rfl, rfl⟩, h1⟩
 replace h1 : St w0 F0 [Zh b1 3 [.int .i64 r1.2.2]] _ _ := h1
 refine RJ.run Za 5 rfl (RJ.fin [(0, _), (1, .int .i64 r1.1), (2, .int .i64 r1.2.1), (3, _), (4, _)] rfl (J.seq (J.region ?_)))
 refine RJ.run Za 4 rfl ?_
 obtain ⟨r2, q2, H⟩ := Zj H
 refine RJ.op rfl rfl (Zd [0] (Q57.spec q2) rfl rfl rfl h1 rfl (Zr (Gives.self 0 rfl) Zm)) ?_
 rintro _ w2 ⟨_, ⟨rfl, rfl⟩, h2⟩
 replace h2 : St w0 F0 [Zh b1 3 [.int .i64 r2.2.2]] _ _ := h2
 refine RJ.run Za 5 rfl (RJ.fin [(0, _), (1, _), (2, .int .i64 r2.1), (4, _)] rfl (J.seq (J.region ?_)))
 refine RJ.run Za 4 rfl ?_
 obtain ⟨r3, q3, H⟩ := Zj H
 refine RJ.op rfl rfl (Zd [0] (Q57.spec q3) rfl rfl rfl h2 rfl (Zr (Gives.self 0 rfl) Zm)) ?_
 rintro _ w3 ⟨_, ⟨rfl, rfl⟩, h3⟩
 replace h3 : St w0 F0 [Zh b1 3 [.int .i64 r3.2.2]] _ _ := h3
 refine RJ.run Za 5 rfl (RJ.fin [(2, .int .i64 r3.2.1)] rfl (J.seq (J.region ?_)))
 refine RJ.run Za 2 rfl (RJ.fin [(10, .int .i64 r3.2.1)] rfl (J.ret ?_))
 obtain rfl := Option.some.inj H
 exact ⟨_, _, _, (Zb rfl), ⟨rfl, rfl⟩, h3.only [0] rfl⟩

def Q54.f (a0 : List (Int)) (a1 : Int) (a2 : Int) : Option (Int × Int) := (Q55.f a0 (w64 (a1 - 1)) a1 (w64 (a1 + 1)) a2).bind fun r1 => (some (r1.1, r1.2))
theorem Q54.spec {a0 : List (Int)} {a1 : Int} {a2 : Int} {A1 : Option Addr} {c_1 : Nat} {b1 : Nat} {r : Int × Int} (H : Q54.f a0 a1 a2 = some r) :
  Spec Tryz.prog 115 [.slice A1 a0.length c_1, .int .i64 a1, .pointer (some ⟨b1, 0, none⟩)] [Zh b1 3 [.int .i64 a2]] [rdC 70 (.int .u32) a0 (.slice A1 a0.length c_1)] (fun v l => v = .int .i64 r.1 ∧ l = [Zh b1 3 [.int .i64 r.2]]) := by
 refine Spec.enter Tryz.func115 rfl (by kernel_rfl) (by kernel_rfl) fun w0 F0 h0 => ?_
 unfold Q54.f at H
 refine J.seq (J.region ?_)
 refine RJ.run Za 1 rfl (RJ.fin [(0, .slice A1 a0.length c_1), (1, .int .i64 a1), (2, .pointer (some ⟨b1, 0, none⟩))] rfl (J.seq (J.region ?_)))
 refine RJ.run Za 7 rfl ?_
 obtain ⟨r1, q1, H⟩ := Zj H
 refine RJ.op rfl rfl (Zd [0] (Q55.spec q1) rfl rfl rfl h0 rfl (Zr (Gives.self 0 rfl) Zm)) ?_
 rintro _ w1 ⟨_, ⟨rfl, rfl⟩, h1⟩
 replace h1 : St w0 F0 [Zh b1 3 [.int .i64 r1.2]] _ _ := h1
 refine RJ.run Za 1 rfl (RJ.fin [(6, .int .i64 r1.1)] rfl (J.ret ?_))
 obtain rfl := Option.some.inj H
 exact ⟨_, _, _, (Zb rfl), ⟨rfl, rfl⟩, h1.only [0] rfl⟩

def Q51.f (a0 : List (Int)) (a1 : Int) (a2 : Int) : Option (Int × Int) := if (decide (8 ≤ (w64 (a2 - a1)))) = true then (if (decide (50 ≤ (w64 (a2 - a1)))) = true then ((Q54.f a0 (w64 (a1 + (w64 ((w64 (Int.tdiv (w64 (a2 - a1)) 4)) * 1)))) 0).bind fun r1 => ((Q54.f a0 (w64 (a1 + (w64 ((w64 (Int.tdiv (w64 (a2 - a1)) 4)) * 2)))) r1.2).bind fun r2 => ((Q54.f a0 (w64 (a1 + (w64 ((w64 (Int.tdiv (w64 (a2 - a1)) 4)) * 3)))) r2.2).bind fun r3 => ((Q55.f a0 r1.1 r2.1 r3.1 r3.2).bind fun r4 => (if (decide (r4.2 = 0)) = true then (some (r4.1, 1)) else (if (decide (r4.2 = 12)) = true then (some (r4.1, 2)) else (some (r4.1, 0)))))))) else ((Q55.f a0 (w64 (a1 + (w64 ((w64 (Int.tdiv (w64 (a2 - a1)) 4)) * 1)))) (w64 (a1 + (w64 ((w64 (Int.tdiv (w64 (a2 - a1)) 4)) * 2)))) (w64 (a1 + (w64 ((w64 (Int.tdiv (w64 (a2 - a1)) 4)) * 3)))) 0).bind fun r5 => (if (decide (r5.2 = 0)) = true then (some (r5.1, 1)) else (if (decide (r5.2 = 12)) = true then (some (r5.1, 2)) else (some (r5.1, 0)))))) else (some ((w64 (a1 + (w64 ((w64 (Int.tdiv (w64 (a2 - a1)) 4)) * 2)))), 1))
theorem Q51.spec {a0 : List (Int)} {a1 : Int} {a2 : Int} {A1 : Option Addr} {c_1 : Nat} {r : Int × Int} (H : Q51.f a0 a1 a2 = some r) :
  Spec Tryz.prog 103 [.slice A1 a0.length c_1, .int .i64 a1, .int .i64 a2] [] [rdC 70 (.int .u32) a0 (.slice A1 a0.length c_1)] (fun v l => v = .tuple #[.int .i64 r.1, .int .i64 r.2] ∧ l = []) := by
 refine Spec.enter Tryz.func103 rfl (by kernel_rfl) (by kernel_rfl) fun w0 F0 h0 => ?_
 unfold Q51.f at H
 refine J.seq (J.region ?_)
 refine RJ.run Za 2 rfl (RJ.fin [(0, .slice A1 a0.length c_1), (1, .int .i64 a1), (2, .int .i64 a2)] rfl (J.seq (J.region ?_)))
 refine RJ.run Za 4 rfl (RJ.fin [(0, _), (1, _), (8, .int .i64 (w64 (a2 - a1)))] rfl (J.seq (J.region ?_)))
 refine RJ.op rfl rfl (Ye Za rfl rfl h0) ?_
 rintro _ w1 ⟨b1, rfl, h1⟩
 replace h1 : St w0 F0 [Zh b1 3 [.int .i64 0]] _ _ := h1
 refine RJ.fin [(0, _), (1, _), (8, _), (9, .pointer (some ⟨b1, 0, none⟩))] rfl (J.seq (J.region ?_))
 refine RJ.run Za 6 rfl (RJ.fin [(0, _), (1, _), (8, _), (9, _), (10, .int .i64 (w64 (a1 + (w64 ((w64 (Int.tdiv (w64 (a2 - a1)) 4)) * 1)))))] rfl (J.seq (J.region ?_)))
 refine RJ.run Za 6 rfl (RJ.fin [(0, _), (1, _), (8, _), (9, _), (10, _), (11, .int .i64 (w64 (a1 + (w64 ((w64 (Int.tdiv (w64 (a2 - a1)) 4)) * 2)))))] rfl (J.seq (J.region ?_)))
 refine RJ.run Za 6 rfl (RJ.fin [(0, _), (8, _), (9, _), (10, _), (11, _), (12, .int .i64 (w64 (a1 + (w64 ((w64 (Int.tdiv (w64 (a2 - a1)) 4)) * 3)))))] rfl (J.seq (J.seq (J.region ?_))))
 refine RJ.run Za 2 rfl (RJ.fin [(0, _), (8, _), (9, _), (10, _), (11, _), (12, _), (32, .bool (decide (8 ≤ (w64 (a2 - a1)))))] rfl (J.cond rfl (fun c1 => ?_) (fun c1 => ?_)))
 ·replace H := Zi c1 H
  refine J.seq (J.seq (J.region ?_))
  refine RJ.run Za 2 rfl (RJ.fin [(0, _), (9, _), (10, _), (11, _), (12, _), (34, .bool (decide (50 ≤ (w64 (a2 - a1)))))] rfl (J.cond rfl (fun c2 => ?_) (fun c2 => ?_)))
  ·replace H := Zi c2 H
   refine J.seq (J.region ?_)
   refine RJ.run Za 2 rfl ?_
   obtain ⟨r1, q1, H⟩ := Zj H
   refine RJ.op rfl rfl (Zd [0] (Q54.spec q1) rfl rfl rfl h1 rfl (Zr (Gives.self 0 rfl) Zm)) ?_
   rintro _ w2 ⟨_, ⟨rfl, rfl⟩, h2⟩
   replace h2 : St w0 F0 [Zh b1 3 [.int .i64 r1.2]] _ _ := h2
   refine RJ.run Za 1 rfl (RJ.fin [(0, _), (9, _), (10, .int .i64 r1.1), (11, _), (12, _)] rfl (J.seq (J.region ?_)))
   refine RJ.run Za 2 rfl ?_
   obtain ⟨r2, q2, H⟩ := Zj H
   refine RJ.op rfl rfl (Zd [0] (Q54.spec q2) rfl rfl rfl h2 rfl (Zr (Gives.self 0 rfl) Zm)) ?_
   rintro _ w3 ⟨_, ⟨rfl, rfl⟩, h3⟩
   replace h3 : St w0 F0 [Zh b1 3 [.int .i64 r2.2]] _ _ := h3
   refine RJ.run Za 1 rfl (RJ.fin [(0, _), (9, _), (10, _), (11, .int .i64 r2.1), (12, _)] rfl (J.region (RJ.run Za 2 rfl ?_)))
   obtain ⟨r3, q3, H⟩ := Zj H
   refine RJ.op rfl rfl (Zd [0] (Q54.spec q3) rfl rfl rfl h3 rfl (Zr (Gives.self 0 rfl) Zm)) ?_
   rintro _ w4 ⟨_, ⟨rfl, rfl⟩, h4⟩
   replace h4 : St w0 F0 [Zh b1 3 [.int .i64 r3.2]] _ _ := h4
   refine RJ.run Za 1 rfl (RJ.fin [(0, _), (9, _), (10, _), (11, _), (12, .int .i64 r3.1)] rfl (J.region (RJ.run Za 4 rfl ?_)))
   obtain ⟨r4, q4, H⟩ := Zj H
   refine RJ.op rfl rfl (Zd [0] (Q55.spec q4) rfl rfl rfl h4 rfl (Zr (Gives.self 0 rfl) Zm)) ?_
   rintro _ w5 ⟨_, ⟨rfl, rfl⟩, h5⟩
   replace h5 : St w0 F0 [Zh b1 3 [.int .i64 r4.2]] _ _ := h5
   refine RJ.run Za 1 rfl (RJ.fin [(9, _), (11, .int .i64 r4.1)] rfl (J.seq (J.region ?_)))
   refine RJ.q rfl rfl (Zc Za 0 h5.wht rfl rfl rfl rfl rfl) (RJ.fin [(11, _), (49, .int .i64 r4.2)] rfl (J.block (J.seq (J.region ?_))))
   refine RJ.run Za 2 rfl (RJ.fin [(11, _), (49, _), (51, .bool (decide (r4.2 = 0)))] rfl (J.cond rfl (fun c3 => ?_) (fun c3 => ?_)))
   ·replace H := Zi c3 H
    refine J.seq (J.region ?_)
    refine RJ.run Za 3 rfl (RJ.fin [(6, .int .i64 r4.1), (7, .int .i64 1)] rfl (J.ret ?_))
    obtain rfl := Option.some.inj H
    exact ⟨_, _, _, (Zb rfl), ⟨rfl, rfl⟩, h5.only [] rfl⟩
   replace H := Zg c3 H
   refine J.seq (J.region ?_)
   refine RJ.run Za 2 rfl (RJ.fin [(11, _), (54, .bool (decide (r4.2 = 12)))] rfl (J.cond rfl (fun c4 => ?_) (fun c4 => ?_)))
   ·replace H := Zi c4 H
    refine J.seq (J.region ?_)
    refine RJ.run Za 3 rfl (RJ.fin [(6, .int .i64 r4.1), (7, .int .i64 2)] rfl (J.ret ?_))
    obtain rfl := Option.some.inj H
    exact ⟨_, _, _, (Zb rfl), ⟨rfl, rfl⟩, h5.only [] rfl⟩
   replace H := Zg c4 H
   refine J.seq (J.region ?_)
   refine RJ.run Za 3 rfl (RJ.fin [(6, .int .i64 r4.1), (7, .int .i64 0)] rfl (J.ret ?_))
   obtain rfl := Option.some.inj H
   exact ⟨_, _, _, (Zb rfl), ⟨rfl, rfl⟩, h5.only [] rfl⟩
  replace H := Zg c2 H
  refine J.skip (J.region (RJ.run Za 4 rfl ?_))
  obtain ⟨r5, q5, H⟩ := Zj H
  refine RJ.op rfl rfl (Zd [0] (Q55.spec q5) rfl rfl rfl h1 rfl (Zr (Gives.self 0 rfl) Zm)) ?_
  rintro _ w6 ⟨_, ⟨rfl, rfl⟩, h6⟩
  replace h6 : St w0 F0 [Zh b1 3 [.int .i64 r5.2]] _ _ := h6
  refine RJ.run Za 1 rfl (RJ.fin [(9, _), (11, .int .i64 r5.1)] rfl (J.seq (J.region ?_)))
  refine RJ.q rfl rfl (Zc Za 0 h6.wht rfl rfl rfl rfl rfl) (RJ.fin [(11, _), (49, .int .i64 r5.2)] rfl (J.block (J.seq (J.region ?_))))
  refine RJ.run Za 2 rfl (RJ.fin [(11, _), (49, _), (51, .bool (decide (r5.2 = 0)))] rfl (J.cond rfl (fun c5 => ?_) (fun c5 => ?_)))
  ·replace H := Zi c5 H
   refine J.seq (J.region ?_)
   refine RJ.run Za 3 rfl (RJ.fin [(6, .int .i64 r5.1), (7, .int .i64 1)] rfl (J.ret ?_))
   obtain rfl := Option.some.inj H
   exact ⟨_, _, _, (Zb rfl), ⟨rfl, rfl⟩, h6.only [] rfl⟩
  replace H := Zg c5 H
  refine J.seq (J.region ?_)
  refine RJ.run Za 2 rfl (RJ.fin [(11, _), (54, .bool (decide (r5.2 = 12)))] rfl (J.cond rfl (fun c6 => ?_) (fun c6 => ?_)))
  ·replace H := Zi c6 H
   refine J.seq (J.region ?_)
   refine RJ.run Za 3 rfl (RJ.fin [(6, .int .i64 r5.1), (7, .int .i64 2)] rfl (J.ret ?_))
   obtain rfl := Option.some.inj H
   exact ⟨_, _, _, (Zb rfl), ⟨rfl, rfl⟩, h6.only [] rfl⟩
  replace H := Zg c6 H
  refine J.seq (J.region ?_)
  refine RJ.run Za 3 rfl (RJ.fin [(6, .int .i64 r5.1), (7, .int .i64 0)] rfl (J.ret ?_))
  obtain rfl := Option.some.inj H
  exact ⟨_, _, _, (Zb rfl), ⟨rfl, rfl⟩, h6.only [] rfl⟩
 replace H := Zg c1 H
 refine J.skip (J.seq (J.region ?_))
 refine RJ.q rfl rfl (Zc Za 0 h1.wht rfl rfl rfl rfl rfl) (RJ.fin [(11, _), (49, .int .i64 0)] rfl (J.block (J.seq (J.region ?_))))
 refine RJ.run Za 2 rfl (RJ.fin [(11, _), (49, _), (51, .bool true)] rfl (J.condT rfl (J.seq (J.region ?_))))
 refine RJ.run Za 3 rfl (RJ.fin [(6, .int .i64 (w64 (a1 + (w64 ((w64 (Int.tdiv (w64 (a2 - a1)) 4)) * 2))))), (7, .int .i64 1)] rfl (J.ret ?_))
 obtain rfl := Option.some.inj H
 exact ⟨_, _, _, (Zb rfl), ⟨rfl, rfl⟩, h1.only [] rfl⟩

def Q62.l0 : Nat → (List (Int)) → (Int) → (Int) → Option (List (Int))
 | 0, _, _, _ => none
 | k + 1, x1, x2, x3 => if (decide (x2 < x3)) = true then (if 0 ≤ x3 ∧ x3 < (x1.length : Int) then (if 0 ≤ x2 ∧ x2 < (x1.length : Int) then (Q62.l0 k ((x1.set x2.toNat (gt x1 x3)).set x3.toNat (gt x1 x2)) (w64 (x2 + 1)) (w64 (x3 - 1))) else none) else none) else (some x1)
def Q62.f (k : Nat) (a0 : List (Int)) (a1 : Int) (a2 : Int) : Option (List (Int)) := Q62.l0 k a0 a1 (w64 (a2 - 1))
theorem Q62.spec {k : Nat} {a0 : List (Int)} {a1 : Int} {a2 : Int} {A1 : Option Addr} {c_1 : Nat} {r : List (Int)} (H : Q62.f k a0 a1 a2 = some r) :
  Spec Tryz.prog 104 [.slice A1 a0.length c_1, .int .i64 a1, .int .i64 a2] [Zf 70 (.int .u32) a0 (.slice A1 a0.length c_1)] [] (fun v l => v = .tuple #[] ∧ l = [Zf 70 (.int .u32) r (.slice A1 r.length c_1)] ∧ r.length = a0.length) := by
 refine Spec.enter Tryz.func104 rfl (by kernel_rfl) (by kernel_rfl) fun w0 F0 h0 => ?_
 unfold Q62.f at H
 refine J.seq (J.region ?_)
 refine RJ.run Za 2 rfl (RJ.fin [(0, .slice A1 a0.length c_1), (2, .int .i64 a2), (6, .int .i64 a1)] rfl (J.seq (J.region ?_)))
 refine RJ.run Za 3 rfl (RJ.fin [(0, _), (6, _), (7, .int .i64 (w64 (a2 - 1)))] rfl (J.block ?_))
 have h11 := ((h0.only [0] rfl).rds [] rfl)
 refine J.loop (fun kk env w => ∃ (x1 : List (Int)) (x2 : Int) (x3 : Int), env = [(0, .slice A1 x1.length c_1), (6, .int .i64 x2), (7, .int .i64 x3)] ∧ St w0 F0 [Zf 70 (.int .u32) x1 (.slice A1 x1.length c_1)] [] w ∧ Q62.l0 kk x1 x2 x3 = some r ∧ x1.length = a0.length) (k := k) ⟨a0, a1, (w64 (a2 - 1)), rfl, h11, H, (rfl : a0.length = a0.length)⟩ ?_
 rintro k1 env w1 ⟨x1, x2, x3, rfl, h1, H, e1⟩
 cases k1 with
 | zero => exact nomatch (show none = some r from H)
 | succ k1 =>
  rw [Q62.l0] at H
  refine J.seq (J.seq (J.region ?_))
  refine RJ.run Za 3 rfl (RJ.fin [(0, _), (6, _), (7, _), (13, .bool (decide (x2 < x3)))] rfl (J.cond rfl (fun c1 => ?_) (fun c1 => ?_)))
  ·replace H := Zi c1 H
   refine J.skip (J.block (J.seq ?_))
   obtain ⟨⟨p1, p2⟩, H⟩ := Zo H
   obtain ⟨⟨p3, p4⟩, H⟩ := Zo H
   refine J.midS (fun env w => env = [(0, .slice A1 ((x1.set x2.toNat (gt x1 x3)).set x3.toNat (gt x1 x2)).length c_1), (6, .int .i64 x2), (7, .int .i64 x3)] ∧ St w0 F0 [Zf 70 (.int .u32) ((x1.set x2.toNat (gt x1 x3)).set x3.toNat (gt x1 x2)) (.slice A1 ((x1.set x2.toNat (gt x1 x3)).set x3.toNat (gt x1 x2)).length c_1)] [] w) ?_ ?_
   ·refine J.heldSt mix (h1.only [] rfl) ?_
    have h4 := h1.drew
    refine HJ.run Za rfl [0, 1, 2, 3, 4, 5, 8, 9] rfl ?_
    have e5 := Zy h4.wh (Gives.of 0 rfl Zl) p1 p2
    refine HJ.q (i := 6) rfl rfl rfl rfl rfl rfl (Zk Za rfl rfl rfl rfl rfl e5 p1 p2) (HJ.q (i := 10) rfl rfl rfl rfl rfl rfl (Zk Za rfl rfl rfl rfl rfl e5 p3 p4) (HJ.pick [7, 11] (i := 7) rfl rfl rfl rfl ((Zs ?_ (Zs ?_ Z4)))))
    ·refine HS.op (i := 7) rfl rfl rfl (OpT.ofq (Ze (f := 0) Za rfl h4.wht (Gives.of 0 rfl Zl) p1 p2 rfl rfl rfl rfl rfl)) ?_
     rintro _ _ ⟨rfl, rfl⟩
     replace h4 : St w0 F0 [_] _ _ := h4
     refine ⟨⟨[_], h4⟩, ?_⟩
     refine HJ.op (i := 11) rfl rfl rfl rfl rfl (OpT.ofq (Ze (f := 0) Za rfl h4.wht (Gives.of 0 rfl Zl) p3 p4 rfl rfl rfl rfl rfl)) ?_
     rintro _ _ ⟨rfl, rfl⟩
     replace h4 : St w0 F0 [_] _ _ := h4
     refine ⟨⟨[_], h4⟩, ?_⟩
     refine HJ.q (i := 12) rfl rfl rfl rfl rfl rfl (Zk Za rfl rfl rfl rfl rfl e5 p3 p4) (HJ.op (i := 13) rfl rfl rfl rfl rfl (Zp (ty := (.int .u32)) (f := 0) (ix := x2) Za rfl (gt x1 x3) 0 rfl h4 rfl rfl p3 p4 rfl rfl rfl rfl rfl rfl rfl) ?_)
     intro _ w4 h5
     replace h5 : St w0 F0 [Zf 70 (.int .u32) (x1.set x2.toNat (gt x1 x3)) (.slice A1 (x1.set x2.toNat (gt x1 x3)).length c_1)] _ _ := h5
     refine ⟨⟨[_], h5⟩, ?_⟩
     have e6 : (x1.set x2.toNat (gt x1 x3)).length = a0.length := List.length_set.trans e1
     refine HJ.q (i := 14) rfl rfl rfl rfl rfl rfl (Zk Za rfl rfl rfl rfl rfl e5 p1 p2) (HJ.op (i := 15) rfl rfl rfl rfl rfl (Zp (ty := (.int .u32)) (f := 0) (ix := x3) Za rfl (gt x1 x2) 0 rfl h5 rfl rfl p1 (by simpa only [List.length_set] using p2) rfl rfl rfl rfl rfl rfl rfl) ?_)
     intro _ w5 h6
     replace h6 : St w0 F0 [Zf 70 (.int .u32) ((x1.set x2.toNat (gt x1 x3)).set x3.toNat (gt x1 x2)) (.slice A1 ((x1.set x2.toNat (gt x1 x3)).set x3.toNat (gt x1 x2)).length c_1)] _ _ := h6
     refine ⟨⟨[_], h6⟩, ?_⟩
     have e7 : ((x1.set x2.toNat (gt x1 x3)).set x3.toNat (gt x1 x2)).length = a0.length := List.length_set.trans e6
     refine HJ.fin [(0, .slice A1 x1.length c_1), (6, .int .i64 x2), (7, .int .i64 x3)] rfl rfl ?_
     exact Zq ⟨(by simp only [List.length_set]), ((h6.only [0] rfl).rds [] rfl)⟩
    ·refine HS.op (i := 11) rfl rfl rfl (OpT.ofq (Ze (f := 0) Za rfl h4.wht (Gives.of 0 rfl Zl) p3 p4 rfl rfl rfl rfl rfl)) ?_
     rintro _ _ ⟨rfl, rfl⟩
     replace h4 : St w0 F0 [_] _ _ := h4
     refine ⟨⟨[_], h4⟩, ?_⟩
     refine HJ.op (i := 7) rfl rfl rfl rfl rfl (OpT.ofq (Ze (f := 0) Za rfl h4.wht (Gives.of 0 rfl Zl) p1 p2 rfl rfl rfl rfl rfl)) ?_
     rintro _ _ ⟨rfl, rfl⟩
     replace h4 : St w0 F0 [_] _ _ := h4
     refine ⟨⟨[_], h4⟩, ?_⟩
     refine HJ.q (i := 12) rfl rfl rfl rfl rfl rfl (Zk Za rfl rfl rfl rfl rfl e5 p3 p4) (HJ.op (i := 13) rfl rfl rfl rfl rfl (Zp (ty := (.int .u32)) (f := 0) (ix := x2) Za rfl (gt x1 x3) 0 rfl h4 rfl rfl p3 p4 rfl rfl rfl rfl rfl rfl rfl) ?_)
     intro _ w6 h7
     replace h7 : St w0 F0 [Zf 70 (.int .u32) (x1.set x2.toNat (gt x1 x3)) (.slice A1 (x1.set x2.toNat (gt x1 x3)).length c_1)] _ _ := h7
     refine ⟨⟨[_], h7⟩, ?_⟩
     have e8 : (x1.set x2.toNat (gt x1 x3)).length = a0.length := List.length_set.trans e1
     refine HJ.q (i := 14) rfl rfl rfl rfl rfl rfl (Zk Za rfl rfl rfl rfl rfl e5 p1 p2) (HJ.op (i := 15) rfl rfl rfl rfl rfl (Zp (ty := (.int .u32)) (f := 0) (ix := x3) Za rfl (gt x1 x2) 0 rfl h7 rfl rfl p1 (by simpa only [List.length_set] using p2) rfl rfl rfl rfl rfl rfl rfl) ?_)
     intro _ w7 h8
     replace h8 : St w0 F0 [Zf 70 (.int .u32) ((x1.set x2.toNat (gt x1 x3)).set x3.toNat (gt x1 x2)) (.slice A1 ((x1.set x2.toNat (gt x1 x3)).set x3.toNat (gt x1 x2)).length c_1)] _ _ := h8
     refine ⟨⟨[_], h8⟩, ?_⟩
     have e9 : ((x1.set x2.toNat (gt x1 x3)).set x3.toNat (gt x1 x2)).length = a0.length := List.length_set.trans e8
     refine HJ.fin [(0, .slice A1 x1.length c_1), (6, .int .i64 x2), (7, .int .i64 x3)] rfl rfl ?_
     exact Zq ⟨(by simp only [List.length_set]), ((h8.only [0] rfl).rds [] rfl)⟩
   rintro env w8 ⟨rfl, h9⟩
   have e10 : ((x1.set x2.toNat (gt x1 x3)).set x3.toNat (gt x1 x2)).length = a0.length := by first | (simp only [List.length_set]; done) | (simp only [List.length_set]; exact e1)
   refine J.seq (J.region ?_)
   refine RJ.run Za 3 rfl (RJ.fin [(0, .slice A1 ((x1.set x2.toNat (gt x1 x3)).set x3.toNat (gt x1 x2)).length c_1), (6, .int .i64 (w64 (x2 + 1))), (7, _)] rfl (J.region (RJ.run Za 3 rfl (RJ.fin [(0, _), (6, _), (7, .int .i64 (w64 (x3 - 1)))] rfl ?_))))
   have h10 := ((h9.only [0] rfl).rds [] rfl)
   exact ⟨k1, by omega, ((x1.set x2.toNat (gt x1 x3)).set x3.toNat (gt x1 x2)), (w64 (x2 + 1)), (w64 (x3 - 1)), rfl, h10, H, e10⟩
  replace H := Zg c1 H
  refine J.exit ?_
  obtain rfl := Option.some.inj H
  exact ⟨_, _, _, (Zb rfl), ⟨rfl, rfl, e1⟩, h1.only [0] rfl⟩

mutual
def Q58.l0 : Nat → (Int) → (Int) → (List (Int)) → (Int) → (Int) → Option (Bool × List (Int))
 | 0, _, _, _, _, _ => none
 | k + 1, a1, a2, x1, x2, x3 => if (decide (x3 < 5)) = true then (Q58.l3 k a1 a2 x1 x3 x2) else (some (false, x1))
def Q58.l1 : Nat → (Int) → (Int) → (Int) → (Int) → (List (Int)) → (Int) → Option (Bool × List (Int))
 | 0, _, _, _, _, _, _ => none
 | k + 1, a1, a2, x3, x6, x9, x10 => if (decide (x10 < a2)) = true then (if 0 ≤ x10 ∧ x10 < (x9.length : Int) then (if 0 ≤ (w64 (x10 - 1)) ∧ (w64 (x10 - 1)) < (x9.length : Int) then ((Q4.f (gt x9 x10) (gt x9 (w64 (x10 - 1)))).bind fun r1 => (if (!r1) = true then (Q58.l0 k a1 a2 x9 x6 (w64 (x3 + 1))) else (Q58.l1 k a1 a2 x3 x6 ((x9.set x10.toNat (gt x9 (w64 (x10 - 1)))).set (w64 (x10 - 1)).toNat (gt x9 x10)) (w64 (x10 + 1))))) else none) else none) else (Q58.l0 k a1 a2 x9 x6 (w64 (x3 + 1)))
def Q58.l2 : Nat → (Int) → (Int) → (Int) → (Int) → (List (Int)) → (Int) → Option (Bool × List (Int))
 | 0, _, _, _, _, _, _ => none
 | k + 1, a1, a2, x3, x6, x11, x12 => if (decide (1 ≤ x12)) = true then (if 0 ≤ x12 ∧ x12 < (x11.length : Int) then (if 0 ≤ (w64 (x12 - 1)) ∧ (w64 (x12 - 1)) < (x11.length : Int) then ((Q4.f (gt x11 x12) (gt x11 (w64 (x12 - 1)))).bind fun r2 => (if (!r2) = true then (if (decide (2 ≤ (w64 (a2 - x6)))) = true then (Q58.l1 k a1 a2 x3 x6 x11 (w64 (x6 + 1))) else (Q58.l0 k a1 a2 x11 x6 (w64 (x3 + 1)))) else (Q58.l2 k a1 a2 x3 x6 ((x11.set x12.toNat (gt x11 (w64 (x12 - 1)))).set (w64 (x12 - 1)).toNat (gt x11 x12)) (w64 (x12 - 1))))) else none) else none) else (if (decide (2 ≤ (w64 (a2 - x6)))) = true then (Q58.l1 k a1 a2 x3 x6 x11 (w64 (x6 + 1))) else (Q58.l0 k a1 a2 x11 x6 (w64 (x3 + 1))))
def Q58.l3 : Nat → (Int) → (Int) → (List (Int)) → (Int) → (Int) → Option (Bool × List (Int))
 | 0, _, _, _, _, _ => none
 | k + 1, a1, a2, x1, x3, x13 => if (decide (x13 < a2)) = true then (if 0 ≤ x13 ∧ x13 < (x1.length : Int) then (if 0 ≤ (w64 (x13 - 1)) ∧ (w64 (x13 - 1)) < (x1.length : Int) then ((Q4.f (gt x1 x13) (gt x1 (w64 (x13 - 1)))).bind fun r3 => (if (!r3) = true then (Q58.l3 k a1 a2 x1 x3 (w64 (x13 + 1))) else (if (decide (x13 = a2)) = true then (some (true, x1)) else (if (decide ((w64 (a2 - a1)) < 50)) = true then (some (false, x1)) else (if 0 ≤ (w64 (x13 - 1)) ∧ (w64 (x13 - 1)) < (x1.length : Int) then (if 0 ≤ x13 ∧ x13 < (x1.length : Int) then (if (decide (2 ≤ (w64 (x13 - a1)))) = true then (Q58.l2 k a1 a2 x3 x13 ((x1.set x13.toNat (gt x1 (w64 (x13 - 1)))).set (w64 (x13 - 1)).toNat (gt x1 x13)) (w64 (x13 - 1))) else (if (decide (2 ≤ (w64 (a2 - x13)))) = true then (Q58.l1 k a1 a2 x3 x13 ((x1.set x13.toNat (gt x1 (w64 (x13 - 1)))).set (w64 (x13 - 1)).toNat (gt x1 x13)) (w64 (x13 + 1))) else (Q58.l0 k a1 a2 ((x1.set x13.toNat (gt x1 (w64 (x13 - 1)))).set (w64 (x13 - 1)).toNat (gt x1 x13)) x13 (w64 (x3 + 1))))) else none) else none))))) else none) else none) else (if (decide (x13 = a2)) = true then (some (true, x1)) else (if (decide ((w64 (a2 - a1)) < 50)) = true then (some (false, x1)) else (if 0 ≤ (w64 (x13 - 1)) ∧ (w64 (x13 - 1)) < (x1.length : Int) then (if 0 ≤ x13 ∧ x13 < (x1.length : Int) then (if (decide (2 ≤ (w64 (x13 - a1)))) = true then (Q58.l2 k a1 a2 x3 x13 ((x1.set x13.toNat (gt x1 (w64 (x13 - 1)))).set (w64 (x13 - 1)).toNat (gt x1 x13)) (w64 (x13 - 1))) else (if (decide (2 ≤ (w64 (a2 - x13)))) = true then (Q58.l1 k a1 a2 x3 x13 ((x1.set x13.toNat (gt x1 (w64 (x13 - 1)))).set (w64 (x13 - 1)).toNat (gt x1 x13)) (w64 (x13 + 1))) else (Q58.l0 k a1 a2 ((x1.set x13.toNat (gt x1 (w64 (x13 - 1)))).set (w64 (x13 - 1)).toNat (gt x1 x13)) x13 (w64 (x3 + 1))))) else none) else none)))
end
def Q58.f (k : Nat) (a0 : List (Int)) (a1 : Int) (a2 : Int) : Option (Bool × List (Int)) := Q58.l0 k a1 a2 a0 (w64 (a1 + 1)) 0
theorem Q58.spec {k : Nat} {a0 : List (Int)} {a1 : Int} {a2 : Int} {A1 : Option Addr} {c_1 : Nat} {r : Bool × List (Int)} (H : Q58.f k a0 a1 a2 = some r) :
  Spec Tryz.prog 105 [.slice A1 a0.length c_1, .int .i64 a1, .int .i64 a2] [Zf 70 (.int .u32) a0 (.slice A1 a0.length c_1)] [] (fun v l => v = .bool r.1 ∧ l = [Zf 70 (.int .u32) r.2 (.slice A1 r.2.length c_1)] ∧ r.2.length = a0.length) := by
 refine Spec.enter Tryz.func105 rfl (by kernel_rfl) (by kernel_rfl) fun w0 F0 h0 => ?_
 unfold Q58.f at H
 refine J.seq (J.region ?_)
 refine RJ.run Za 1 rfl (RJ.fin [(0, .slice A1 a0.length c_1), (1, .int .i64 a1), (2, .int .i64 a2)] rfl (J.seq (J.region ?_)))
 refine RJ.run Za 3 rfl (RJ.fin [(0, _), (1, _), (2, _), (7, .int .i64 (w64 (a1 + 1)))] rfl (J.seq (J.seq (J.region ?_))))
 refine RJ.run Za 1 rfl (RJ.fin [(0, _), (1, _), (2, _), (7, _), (8, .int .i64 0)] rfl (J.block ?_))
 have h53 := ((h0.only [0] rfl).rds [] rfl)
 refine J.loop (fun kk env w => ∃ (x1 : List (Int)) (x2 : Int) (x3 : Int), env = [(0, .slice A1 x1.length c_1), (1, .int .i64 a1), (2, .int .i64 a2), (7, .int .i64 x2), (8, .int .i64 x3)] ∧ St w0 F0 [Zf 70 (.int .u32) x1 (.slice A1 x1.length c_1)] [] w ∧ Q58.l0 kk a1 a2 x1 x2 x3 = some r ∧ x1.length = a0.length) (k := k) ⟨a0, (w64 (a1 + 1)), 0, rfl, h53, H, (rfl : a0.length = a0.length)⟩ ?_
 rintro k1 env w1 ⟨x1, x2, x3, rfl, h1, H, e1⟩
 cases k1 with
 | zero => exact nomatch (show none = some r from H)
 | succ k1 =>
  rw [Q58.l0] at H
  refine J.seq (J.seq (J.region ?_))
  refine RJ.run Za 2 rfl (RJ.fin [(0, _), (1, _), (2, _), (7, _), (8, _), (14, .bool (decide (x3 < 5)))] rfl (J.cond rfl (fun c1 => ?_) (fun c1 => ?_)))
  ·replace H := Zi c1 H
   refine J.skip (J.seq (J.midS (fun env w => ∃ (k2 : Nat) (x4 : List (Int)) (x5 : Int), env = [(0, .slice A1 x4.length c_1), (1, .int .i64 a1), (2, .int .i64 a2), (7, .int .i64 x5), (8, .int .i64 x3)] ∧ St w0 F0 [Zf 70 (.int .u32) x4 (.slice A1 x4.length c_1)] [] w ∧ (Q58.l0 k2 a1 a2 x4 x5 (w64 (x3 + 1))) = some r ∧ k2 ≤ k1 ∧ x4.length = a0.length) ?_ ?_))
   ·refine J.block (J.seq ?_)
    refine J.midS (fun env w => ∃ (k3 : Nat) (x6 : Int) (x7 : Bool), env = [(0, .slice A1 x1.length c_1), (1, .int .i64 a1), (2, .int .i64 a2), (7, .int .i64 x6), (8, .int .i64 x3), (32, .bool x7)] ∧ St w0 F0 [Zf 70 (.int .u32) x1 (.slice A1 x1.length c_1)] [] w ∧ (if (decide (x6 = a2)) = true then (some (true, x1)) else (if (decide ((w64 (a2 - a1)) < 50)) = true then (some (false, x1)) else (if 0 ≤ (w64 (x6 - 1)) ∧ (w64 (x6 - 1)) < (x1.length : Int) then (if 0 ≤ x6 ∧ x6 < (x1.length : Int) then (if (decide (2 ≤ (w64 (x6 - a1)))) = true then (Q58.l2 k3 a1 a2 x3 x6 ((x1.set x6.toNat (gt x1 (w64 (x6 - 1)))).set (w64 (x6 - 1)).toNat (gt x1 x6)) (w64 (x6 - 1))) else (if (decide (2 ≤ (w64 (a2 - x6)))) = true then (Q58.l1 k3 a1 a2 x3 x6 ((x1.set x6.toNat (gt x1 (w64 (x6 - 1)))).set (w64 (x6 - 1)).toNat (gt x1 x6)) (w64 (x6 + 1))) else (Q58.l0 k3 a1 a2 ((x1.set x6.toNat (gt x1 (w64 (x6 - 1)))).set (w64 (x6 - 1)).toNat (gt x1 x6)) x6 (w64 (x3 + 1))))) else none) else none))) = some r ∧ k3 ≤ k1) ?_ ?_
    ·refine J.block (J.narrow [(0, _), (1, _), (2, _), (7, _), (8, _)] rfl ?_)
     have h52 := ((h1.only [0] rfl).rds [] rfl)
     refine J.loop (fun kk env w => ∃ (x13 : Int), env = [(0, .slice A1 x1.length c_1), (1, .int .i64 a1), (2, .int .i64 a2), (7, .int .i64 x13), (8, .int .i64 x3)] ∧ St w0 F0 [Zf 70 (.int .u32) x1 (.slice A1 x1.length c_1)] [] w ∧ Q58.l3 kk a1 a2 x1 x3 x13 = some r ∧ kk ≤ k1) (k := k1) ⟨x2, rfl, h52, H, Nat.le_refl _⟩ ?_
     rintro k7 env w33 ⟨x13, rfl, h46, H, hk7⟩
     cases k7 with
     | zero => exact nomatch (show none = some r from H)
     | succ k7 =>
      rw [Q58.l3] at H
      refine J.seq (J.seq ?_)
      refine J.heldSt mix h46 ?_
      have h47 := h46.drew
      refine HJ.run Za rfl [0, 1, 2, 3] rfl ?_
      rcases Bool.eq_false_or_eq_true (decide (x13 < a2)) with c10 | c10
      ·replace H := Zi c10 H
       refine HJ.know (t := 20) rfl (congrArg Value.bool c10) (HJ.run Za rfl [4, 5, 8, 9, 10] rfl ?_)
       obtain ⟨⟨p13, p14⟩, H⟩ := Zo H
       have e31 := Zy h47.wh (Gives.of 0 rfl Zl) p13 p14
       refine HJ.q (i := 6) rfl rfl rfl rfl rfl rfl (Zk Za rfl rfl rfl rfl rfl e31 p13 p14) (HJ.q (i := 7) rfl rfl rfl rfl rfl rfl (Ze (f := 0) Za rfl (fun w e => e) (Gives.of 0 rfl Zl) p13 p14 rfl rfl rfl rfl rfl) ?_)
       obtain ⟨⟨p15, p16⟩, H⟩ := Zo H
       refine HJ.q (i := 11) rfl rfl rfl rfl rfl rfl (Zk Za rfl rfl rfl rfl rfl e31 p15 p16) (HJ.q (i := 12) rfl rfl rfl rfl rfl rfl (Ze (f := 0) Za rfl (fun w e => e) (Gives.of 0 rfl Zl) p15 p16 rfl rfl rfl rfl rfl) ?_)
       obtain ⟨r3, q3, H⟩ := Zj H
       refine HJ.op (i := 13) rfl rfl rfl rfl rfl (Zd [] (Q4.spec q3) rfl rfl rfl h47 rfl Zm) ?_
       rintro _ w34 ⟨_, ⟨rfl, rfl⟩, h48⟩
       replace h48 : St w0 F0 [_] _ _ := h48
       refine ⟨⟨[], h48⟩, ?_⟩
       refine HJ.run Za rfl [14, 15] rfl (HJ.fin [(0, _), (1, _), (2, _), (7, _), (8, _), (32, .bool (!r3))] rfl rfl (J.cond rfl (fun c11 => ?_) (fun c11 => ?_)))
       ·replace H := Zi c11 H
        refine J.skip (J.block (J.region ?_))
        refine RJ.run Za 3 rfl (RJ.fin [(0, _), (1, _), (2, _), (7, .int .i64 (w64 (x13 + 1))), (8, _)] rfl ?_)
        have h49 := ((h48.only [0] rfl).rds [] rfl)
        exact ⟨k7, by omega, (w64 (x13 + 1)), rfl, h49, H, by omega⟩
       replace H := Zg c11 H
       refine J.exit ?_
       have h50 := ((h48.only [0] rfl).rds [] rfl)
       exact ⟨k7, x13, (!r3), rfl, h50, H, by omega⟩
      replace H := Zg c10 H
      refine HJ.know (t := 20) rfl (congrArg Value.bool c10) (HJ.run Za rfl [4, 5, 6, 7, 8, 9, 10, 11, 12, 13, 14, 15] rfl (HJ.fin [(0, _), (1, _), (2, _), (7, _), (8, _), (32, .bool false)] rfl rfl (J.condF rfl (J.exit ?_))))
      have h51 := ((h47.only [0] rfl).rds [] rfl)
      exact ⟨k7, x13, false, rfl, h51, H, by omega⟩
    rintro env w5 ⟨k3, x6, x7, rfl, h4, H, hk3⟩
    refine J.seq (J.seq (J.region ?_))
    refine RJ.run Za 3 rfl (RJ.fin [(0, _), (1, _), (2, _), (7, _), (8, _), (37, .bool (decide (x6 = a2)))] rfl (J.cond rfl (fun c2 => ?_) (fun c2 => ?_)))
    ·replace H := Zi c2 H
     refine J.seq (J.region ?_)
     refine RJ.run Za 1 rfl (RJ.fin [(6, .bool true)] rfl (J.ret ?_))
     obtain rfl := Option.some.inj H
     exact ⟨_, _, _, (Zb rfl), ⟨rfl, rfl, e1⟩, h4.only [0] rfl⟩
    replace H := Zg c2 H
    refine J.skip (J.seq (J.seq (J.region ?_)))
    refine RJ.run Za 4 rfl (RJ.fin [(0, _), (1, _), (2, _), (7, _), (8, _), (41, .bool (decide ((w64 (a2 - a1)) < 50)))] rfl (J.cond rfl (fun c3 => ?_) (fun c3 => ?_)))
    ·replace H := Zi c3 H
     refine J.seq (J.region ?_)
     refine RJ.run Za 1 rfl (RJ.fin [(6, .bool false)] rfl (J.ret ?_))
     obtain rfl := Option.some.inj H
     exact ⟨_, _, _, (Zb rfl), ⟨rfl, rfl, e1⟩, h4.only [0] rfl⟩
    replace H := Zg c3 H
    refine J.skip (J.seq ?_)
    obtain ⟨⟨p1, p2⟩, H⟩ := Zo H
    obtain ⟨⟨p3, p4⟩, H⟩ := Zo H
    refine J.midS (fun env w => env = [(0, .slice A1 ((x1.set x6.toNat (gt x1 (w64 (x6 - 1)))).set (w64 (x6 - 1)).toNat (gt x1 x6)).length c_1), (1, .int .i64 a1), (2, .int .i64 a2), (7, .int .i64 x6), (8, .int .i64 x3)] ∧ St w0 F0 [Zf 70 (.int .u32) ((x1.set x6.toNat (gt x1 (w64 (x6 - 1)))).set (w64 (x6 - 1)).toNat (gt x1 x6)) (.slice A1 ((x1.set x6.toNat (gt x1 (w64 (x6 - 1)))).set (w64 (x6 - 1)).toNat (gt x1 x6)).length c_1)] [] w) ?_ ?_
    ·refine J.heldSt mix (h4.only [] rfl) ?_
     have h7 := h4.drew
     refine HJ.run Za rfl [0, 1, 2, 3, 4, 5, 6, 7, 10, 11] rfl ?_
     have e6 := Zy h7.wh (Gives.of 0 rfl Zl) p1 p2
     refine HJ.q (i := 8) rfl rfl rfl rfl rfl rfl (Zk Za rfl rfl rfl rfl rfl e6 p1 p2) (HJ.q (i := 12) rfl rfl rfl rfl rfl rfl (Zk Za rfl rfl rfl rfl rfl e6 p3 p4) (HJ.pick [9, 13] (i := 9) rfl rfl rfl rfl ((Zs ?_ (Zs ?_ Z4)))))
     ·refine HS.op (i := 9) rfl rfl rfl (OpT.ofq (Ze (f := 0) Za rfl h7.wht (Gives.of 0 rfl Zl) p1 p2 rfl rfl rfl rfl rfl)) ?_
      rintro _ _ ⟨rfl, rfl⟩
      replace h7 : St w0 F0 [_] _ _ := h7
      refine ⟨⟨[_], h7⟩, ?_⟩
      refine HJ.op (i := 13) rfl rfl rfl rfl rfl (OpT.ofq (Ze (f := 0) Za rfl h7.wht (Gives.of 0 rfl Zl) p3 p4 rfl rfl rfl rfl rfl)) ?_
      rintro _ _ ⟨rfl, rfl⟩
      replace h7 : St w0 F0 [_] _ _ := h7
      refine ⟨⟨[_], h7⟩, ?_⟩
      refine HJ.q (i := 14) rfl rfl rfl rfl rfl rfl (Zk Za rfl rfl rfl rfl rfl e6 p3 p4) (HJ.op (i := 15) rfl rfl rfl rfl rfl (Zp (ty := (.int .u32)) (f := 0) (ix := x6) Za rfl (gt x1 (w64 (x6 - 1))) 0 rfl h7 rfl rfl p3 p4 rfl rfl rfl rfl rfl rfl rfl) ?_)
      intro _ w8 h8
      replace h8 : St w0 F0 [Zf 70 (.int .u32) (x1.set x6.toNat (gt x1 (w64 (x6 - 1)))) (.slice A1 (x1.set x6.toNat (gt x1 (w64 (x6 - 1)))).length c_1)] _ _ := h8
      refine ⟨⟨[_], h8⟩, ?_⟩
      have e7 : (x1.set x6.toNat (gt x1 (w64 (x6 - 1)))).length = a0.length := List.length_set.trans e1
      refine HJ.q (i := 16) rfl rfl rfl rfl rfl rfl (Zk Za rfl rfl rfl rfl rfl e6 p1 p2) (HJ.op (i := 17) rfl rfl rfl rfl rfl (Zp (ty := (.int .u32)) (f := 0) (ix := (w64 (x6 - 1))) Za rfl (gt x1 x6) 0 rfl h8 rfl rfl p1 (by simpa only [List.length_set] using p2) rfl rfl rfl rfl rfl rfl rfl) ?_)
      intro _ w9 h9
      replace h9 : St w0 F0 [Zf 70 (.int .u32) ((x1.set x6.toNat (gt x1 (w64 (x6 - 1)))).set (w64 (x6 - 1)).toNat (gt x1 x6)) (.slice A1 ((x1.set x6.toNat (gt x1 (w64 (x6 - 1)))).set (w64 (x6 - 1)).toNat (gt x1 x6)).length c_1)] _ _ := h9
      refine ⟨⟨[_], h9⟩, ?_⟩
      have e8 : ((x1.set x6.toNat (gt x1 (w64 (x6 - 1)))).set (w64 (x6 - 1)).toNat (gt x1 x6)).length = a0.length := List.length_set.trans e7
      refine HJ.fin [(0, .slice A1 x1.length c_1), (1, .int .i64 a1), (2, .int .i64 a2), (7, .int .i64 x6), (8, .int .i64 x3)] rfl rfl ?_
      exact Zq ⟨(by simp only [List.length_set]), ((h9.only [0] rfl).rds [] rfl)⟩
     ·refine HS.op (i := 13) rfl rfl rfl (OpT.ofq (Ze (f := 0) Za rfl h7.wht (Gives.of 0 rfl Zl) p3 p4 rfl rfl rfl rfl rfl)) ?_
      rintro _ _ ⟨rfl, rfl⟩
      replace h7 : St w0 F0 [_] _ _ := h7
      refine ⟨⟨[_], h7⟩, ?_⟩
      refine HJ.op (i := 9) rfl rfl rfl rfl rfl (OpT.ofq (Ze (f := 0) Za rfl h7.wht (Gives.of 0 rfl Zl) p1 p2 rfl rfl rfl rfl rfl)) ?_
      rintro _ _ ⟨rfl, rfl⟩
      replace h7 : St w0 F0 [_] _ _ := h7
      refine ⟨⟨[_], h7⟩, ?_⟩
      refine HJ.q (i := 14) rfl rfl rfl rfl rfl rfl (Zk Za rfl rfl rfl rfl rfl e6 p3 p4) (HJ.op (i := 15) rfl rfl rfl rfl rfl (Zp (ty := (.int .u32)) (f := 0) (ix := x6) Za rfl (gt x1 (w64 (x6 - 1))) 0 rfl h7 rfl rfl p3 p4 rfl rfl rfl rfl rfl rfl rfl) ?_)
      intro _ w10 h10
      replace h10 : St w0 F0 [Zf 70 (.int .u32) (x1.set x6.toNat (gt x1 (w64 (x6 - 1)))) (.slice A1 (x1.set x6.toNat (gt x1 (w64 (x6 - 1)))).length c_1)] _ _ := h10
      refine ⟨⟨[_], h10⟩, ?_⟩
      have e9 : (x1.set x6.toNat (gt x1 (w64 (x6 - 1)))).length = a0.length := List.length_set.trans e1
      refine HJ.q (i := 16) rfl rfl rfl rfl rfl rfl (Zk Za rfl rfl rfl rfl rfl e6 p1 p2) (HJ.op (i := 17) rfl rfl rfl rfl rfl (Zp (ty := (.int .u32)) (f := 0) (ix := (w64 (x6 - 1))) Za rfl (gt x1 x6) 0 rfl h10 rfl rfl p1 (by simpa only [List.length_set] using p2) rfl rfl rfl rfl rfl rfl rfl) ?_)
      intro _ w11 h11
      replace h11 : St w0 F0 [Zf 70 (.int .u32) ((x1.set x6.toNat (gt x1 (w64 (x6 - 1)))).set (w64 (x6 - 1)).toNat (gt x1 x6)) (.slice A1 ((x1.set x6.toNat (gt x1 (w64 (x6 - 1)))).set (w64 (x6 - 1)).toNat (gt x1 x6)).length c_1)] _ _ := h11
      refine ⟨⟨[_], h11⟩, ?_⟩
      have e10 : ((x1.set x6.toNat (gt x1 (w64 (x6 - 1)))).set (w64 (x6 - 1)).toNat (gt x1 x6)).length = a0.length := List.length_set.trans e9
      refine HJ.fin [(0, .slice A1 x1.length c_1), (1, .int .i64 a1), (2, .int .i64 a2), (7, .int .i64 x6), (8, .int .i64 x3)] rfl rfl ?_
      exact Zq ⟨(by simp only [List.length_set]), ((h11.only [0] rfl).rds [] rfl)⟩
    rintro env w12 ⟨rfl, h12⟩
    have e11 : ((x1.set x6.toNat (gt x1 (w64 (x6 - 1)))).set (w64 (x6 - 1)).toNat (gt x1 x6)).length = a0.length := by first | (simp only [List.length_set]; done) | (simp only [List.length_set]; exact e1)
    refine J.seq (J.seq (J.region ?_))
    refine RJ.run Za 4 rfl (RJ.fin [(0, .slice A1 ((x1.set x6.toNat (gt x1 (w64 (x6 - 1)))).set (w64 (x6 - 1)).toNat (gt x1 x6)).length c_1), (1, _), (2, _), (7, _), (8, _), (61, .bool (decide (2 ≤ (w64 (x6 - a1)))))] rfl (J.midS (fun env w => ∃ (k4 : Nat) (x8 : List (Int)), env = [(0, .slice A1 x8.length c_1), (1, .int .i64 a1), (2, .int .i64 a2), (7, .int .i64 x6), (8, .int .i64 x3)] ∧ St w0 F0 [Zf 70 (.int .u32) x8 (.slice A1 x8.length c_1)] [] w ∧ (if (decide (2 ≤ (w64 (a2 - x6)))) = true then (Q58.l1 k4 a1 a2 x3 x6 x8 (w64 (x6 + 1))) else (Q58.l0 k4 a1 a2 x8 x6 (w64 (x3 + 1)))) = some r ∧ k4 ≤ k3 ∧ x8.length = a0.length) ?_ ?_))
    ·refine J.cond rfl (fun c7 => ?_) (fun c7 => ?_)
     ·replace H := Zi c7 H
      refine J.seq (J.region ?_)
      refine RJ.run Za 3 rfl (RJ.fin [(0, _), (1, _), (2, _), (7, _), (8, _), (9, .int .i64 (w64 (x6 - 1)))] rfl (J.block ?_))
      have h44 := ((h12.only [0] rfl).rds [] rfl)
      refine J.loop (fun kk env w => ∃ (x11 : List (Int)) (x12 : Int), env = [(0, .slice A1 x11.length c_1), (1, .int .i64 a1), (2, .int .i64 a2), (7, .int .i64 x6), (8, .int .i64 x3), (9, .int .i64 x12)] ∧ St w0 F0 [Zf 70 (.int .u32) x11 (.slice A1 x11.length c_1)] [] w ∧ Q58.l2 kk a1 a2 x3 x6 x11 x12 = some r ∧ kk ≤ k3 ∧ x11.length = a0.length) (k := k3) ⟨((x1.set x6.toNat (gt x1 (w64 (x6 - 1)))).set (w64 (x6 - 1)).toNat (gt x1 x6)), (w64 (x6 - 1)), rfl, h44, H, Nat.le_refl _, e11⟩ ?_
      rintro k6 env w24 ⟨x11, x12, rfl, h30, H, hk6, e22⟩
      cases k6 with
      | zero => exact nomatch (show none = some r from H)
      | succ k6 =>
       rw [Q58.l2] at H
       refine J.seq (J.seq (J.region ?_))
       refine RJ.run Za 2 rfl (RJ.fin [(0, _), (1, _), (2, _), (7, _), (8, _), (9, _), (65, .bool (decide (1 ≤ x12)))] rfl (J.cond rfl (fun c8 => ?_) (fun c8 => ?_)))
       ·replace H := Zi c8 H
        refine J.skip (J.seq (J.block (J.seq (J.seq ?_))))
        refine J.heldSt mix h30 ?_
        have h31 := h30.drew
        refine HJ.run Za rfl [0, 1, 4, 5, 6] rfl ?_
        obtain ⟨⟨p9, p10⟩, H⟩ := Zo H
        have e23 := Zy h31.wh (Gives.of 0 rfl Zl) p9 p10
        refine HJ.q (i := 2) rfl rfl rfl rfl rfl rfl (Zk Za rfl rfl rfl rfl rfl e23 p9 p10) (HJ.q (i := 3) rfl rfl rfl rfl rfl rfl (Ze (f := 0) Za rfl (fun w e => e) (Gives.of 0 rfl Zl) p9 p10 rfl rfl rfl rfl rfl) ?_)
        obtain ⟨⟨p11, p12⟩, H⟩ := Zo H
        refine HJ.q (i := 7) rfl rfl rfl rfl rfl rfl (Zk Za rfl rfl rfl rfl rfl e23 p11 p12) (HJ.q (i := 8) rfl rfl rfl rfl rfl rfl (Ze (f := 0) Za rfl (fun w e => e) (Gives.of 0 rfl Zl) p11 p12 rfl rfl rfl rfl rfl) ?_)
        obtain ⟨r2, q2, H⟩ := Zj H
        refine HJ.op (i := 9) rfl rfl rfl rfl rfl (Zd [] (Q4.spec q2) rfl rfl rfl h31 rfl Zm) ?_
        rintro _ w25 ⟨_, ⟨rfl, rfl⟩, h32⟩
        replace h32 : St w0 F0 [_] _ _ := h32
        refine ⟨⟨[], h32⟩, ?_⟩
        refine HJ.run Za rfl [10] rfl (HJ.fin [(0, _), (1, _), (2, _), (7, _), (8, _), (9, _), (78, .bool (!r2))] rfl rfl (J.cond rfl (fun c9 => ?_) (fun c9 => ?_)))
        ·replace H := Zi c9 H
         refine J.narrow [(0, _), (1, _), (2, _), (7, _), (8, _)] rfl (J.exit ?_)
         have h33 := ((h32.only [0] rfl).rds [] rfl)
         exact ⟨k6, x11, rfl, h33, H, by omega, e22⟩
        replace H := Zg c9 H
        refine J.skip (J.mid (fun env w => env = [(0, .slice A1 ((x11.set x12.toNat (gt x11 (w64 (x12 - 1)))).set (w64 (x12 - 1)).toNat (gt x11 x12)).length c_1), (1, .int .i64 a1), (2, .int .i64 a2), (7, .int .i64 x6), (8, .int .i64 x3), (9, .int .i64 x12)] ∧ St w0 F0 [Zf 70 (.int .u32) ((x11.set x12.toNat (gt x11 (w64 (x12 - 1)))).set (w64 (x12 - 1)).toNat (gt x11 x12)) (.slice A1 ((x11.set x12.toNat (gt x11 (w64 (x12 - 1)))).set (w64 (x12 - 1)).toNat (gt x11 x12)).length c_1)] [] w) ?_ ?_)
        ·refine J.heldSt mix (h32.only [] rfl) ?_
         have h36 := h32.drew
         refine HJ.run Za rfl [0, 1, 2, 3, 4, 5, 6, 7, 10, 11] rfl (HJ.q (i := 8) rfl rfl rfl rfl rfl rfl (Zk Za rfl rfl rfl rfl rfl e23 p11 p12) (HJ.q (i := 12) rfl rfl rfl rfl rfl rfl (Zk Za rfl rfl rfl rfl rfl e23 p9 p10) (HJ.pick [9, 13] (i := 9) rfl rfl rfl rfl ((Zs ?_ (Zs ?_ Z4))))))
         ·refine HS.op (i := 9) rfl rfl rfl (OpT.ofq (Ze (f := 0) Za rfl h36.wht (Gives.of 0 rfl Zl) p11 p12 rfl rfl rfl rfl rfl)) ?_
          rintro _ _ ⟨rfl, rfl⟩
          replace h36 : St w0 F0 [_] _ _ := h36
          refine ⟨⟨[_], h36⟩, ?_⟩
          refine HJ.op (i := 13) rfl rfl rfl rfl rfl (OpT.ofq (Ze (f := 0) Za rfl h36.wht (Gives.of 0 rfl Zl) p9 p10 rfl rfl rfl rfl rfl)) ?_
          rintro _ _ ⟨rfl, rfl⟩
          replace h36 : St w0 F0 [_] _ _ := h36
          refine ⟨⟨[_], h36⟩, ?_⟩
          refine HJ.q (i := 14) rfl rfl rfl rfl rfl rfl (Zk Za rfl rfl rfl rfl rfl e23 p9 p10) (HJ.op (i := 15) rfl rfl rfl rfl rfl (Zp (ty := (.int .u32)) (f := 0) (ix := x12) Za rfl (gt x11 (w64 (x12 - 1))) 0 rfl h36 rfl rfl p9 p10 rfl rfl rfl rfl rfl rfl rfl) ?_)
          intro _ w28 h37
          replace h37 : St w0 F0 [Zf 70 (.int .u32) (x11.set x12.toNat (gt x11 (w64 (x12 - 1)))) (.slice A1 (x11.set x12.toNat (gt x11 (w64 (x12 - 1)))).length c_1)] _ _ := h37
          refine ⟨⟨[_], h37⟩, ?_⟩
          have e26 : (x11.set x12.toNat (gt x11 (w64 (x12 - 1)))).length = a0.length := List.length_set.trans e22
          refine HJ.q (i := 16) rfl rfl rfl rfl rfl rfl (Zk Za rfl rfl rfl rfl rfl e23 p11 p12) (HJ.op (i := 17) rfl rfl rfl rfl rfl (Zp (ty := (.int .u32)) (f := 0) (ix := (w64 (x12 - 1))) Za rfl (gt x11 x12) 0 rfl h37 rfl rfl p11 (by simpa only [List.length_set] using p12) rfl rfl rfl rfl rfl rfl rfl) ?_)
          intro _ w29 h38
          replace h38 : St w0 F0 [Zf 70 (.int .u32) ((x11.set x12.toNat (gt x11 (w64 (x12 - 1)))).set (w64 (x12 - 1)).toNat (gt x11 x12)) (.slice A1 ((x11.set x12.toNat (gt x11 (w64 (x12 - 1)))).set (w64 (x12 - 1)).toNat (gt x11 x12)).length c_1)] _ _ := h38
          refine ⟨⟨[_], h38⟩, ?_⟩
          have e27 : ((x11.set x12.toNat (gt x11 (w64 (x12 - 1)))).set (w64 (x12 - 1)).toNat (gt x11 x12)).length = a0.length := List.length_set.trans e26
          refine HJ.fin [(0, .slice A1 x11.length c_1), (1, .int .i64 a1), (2, .int .i64 a2), (7, .int .i64 x6), (8, .int .i64 x3), (9, .int .i64 x12)] rfl rfl ?_
          exact Zq ⟨(by simp only [List.length_set]), ((h38.only [0] rfl).rds [] rfl)⟩
         ·refine HS.op (i := 13) rfl rfl rfl (OpT.ofq (Ze (f := 0) Za rfl h36.wht (Gives.of 0 rfl Zl) p9 p10 rfl rfl rfl rfl rfl)) ?_
          rintro _ _ ⟨rfl, rfl⟩
          replace h36 : St w0 F0 [_] _ _ := h36
          refine ⟨⟨[_], h36⟩, ?_⟩
          refine HJ.op (i := 9) rfl rfl rfl rfl rfl (OpT.ofq (Ze (f := 0) Za rfl h36.wht (Gives.of 0 rfl Zl) p11 p12 rfl rfl rfl rfl rfl)) ?_
          rintro _ _ ⟨rfl, rfl⟩
          replace h36 : St w0 F0 [_] _ _ := h36
          refine ⟨⟨[_], h36⟩, ?_⟩
          refine HJ.q (i := 14) rfl rfl rfl rfl rfl rfl (Zk Za rfl rfl rfl rfl rfl e23 p9 p10) (HJ.op (i := 15) rfl rfl rfl rfl rfl (Zp (ty := (.int .u32)) (f := 0) (ix := x12) Za rfl (gt x11 (w64 (x12 - 1))) 0 rfl h36 rfl rfl p9 p10 rfl rfl rfl rfl rfl rfl rfl) ?_)
          intro _ w30 h39
          replace h39 : St w0 F0 [Zf 70 (.int .u32) (x11.set x12.toNat (gt x11 (w64 (x12 - 1)))) (.slice A1 (x11.set x12.toNat (gt x11 (w64 (x12 - 1)))).length c_1)] _ _ := h39
          refine ⟨⟨[_], h39⟩, ?_⟩
          have e28 : (x11.set x12.toNat (gt x11 (w64 (x12 - 1)))).length = a0.length := List.length_set.trans e22
          refine HJ.q (i := 16) rfl rfl rfl rfl rfl rfl (Zk Za rfl rfl rfl rfl rfl e23 p11 p12) (HJ.op (i := 17) rfl rfl rfl rfl rfl (Zp (ty := (.int .u32)) (f := 0) (ix := (w64 (x12 - 1))) Za rfl (gt x11 x12) 0 rfl h39 rfl rfl p11 (by simpa only [List.length_set] using p12) rfl rfl rfl rfl rfl rfl rfl) ?_)
          intro _ w31 h40
          replace h40 : St w0 F0 [Zf 70 (.int .u32) ((x11.set x12.toNat (gt x11 (w64 (x12 - 1)))).set (w64 (x12 - 1)).toNat (gt x11 x12)) (.slice A1 ((x11.set x12.toNat (gt x11 (w64 (x12 - 1)))).set (w64 (x12 - 1)).toNat (gt x11 x12)).length c_1)] _ _ := h40
          refine ⟨⟨[_], h40⟩, ?_⟩
          have e29 : ((x11.set x12.toNat (gt x11 (w64 (x12 - 1)))).set (w64 (x12 - 1)).toNat (gt x11 x12)).length = a0.length := List.length_set.trans e28
          refine HJ.fin [(0, .slice A1 x11.length c_1), (1, .int .i64 a1), (2, .int .i64 a2), (7, .int .i64 x6), (8, .int .i64 x3), (9, .int .i64 x12)] rfl rfl ?_
          exact Zq ⟨(by simp only [List.length_set]), ((h40.only [0] rfl).rds [] rfl)⟩
        rintro env w32 ⟨rfl, h41⟩
        have e30 : ((x11.set x12.toNat (gt x11 (w64 (x12 - 1)))).set (w64 (x12 - 1)).toNat (gt x11 x12)).length = a0.length := by first | (simp only [List.length_set]; done) | (simp only [List.length_set]; exact e22)
        refine J.region (RJ.run Za 3 rfl (RJ.fin [(0, .slice A1 ((x11.set x12.toNat (gt x11 (w64 (x12 - 1)))).set (w64 (x12 - 1)).toNat (gt x11 x12)).length c_1), (1, _), (2, _), (7, _), (8, _), (9, .int .i64 (w64 (x12 - 1)))] rfl ?_))
        have h42 := ((h41.only [0] rfl).rds [] rfl)
        exact ⟨k6, by omega, ((x11.set x12.toNat (gt x11 (w64 (x12 - 1)))).set (w64 (x12 - 1)).toNat (gt x11 x12)), (w64 (x12 - 1)), rfl, h42, H, by omega, e30⟩
       replace H := Zg c8 H
       refine J.narrow [(0, _), (1, _), (2, _), (7, _), (8, _)] rfl (J.exit ?_)
       have h43 := ((h30.only [0] rfl).rds [] rfl)
       exact ⟨k6, x11, rfl, h43, H, by omega, e22⟩
     replace H := Zg c7 H
     refine J.narrow [(0, _), (1, _), (2, _), (7, _), (8, _)] rfl (J.skip ?_)
     have h45 := ((h12.only [0] rfl).rds [] rfl)
     exact ⟨k3, ((x1.set x6.toNat (gt x1 (w64 (x6 - 1)))).set (w64 (x6 - 1)).toNat (gt x1 x6)), rfl, h45, H, Nat.le_refl _, e11⟩
    rintro env w14 ⟨k4, x8, rfl, h13, H, hk4, e12⟩
    refine J.seq (J.region ?_)
    refine RJ.run Za 4 rfl (RJ.fin [(0, _), (1, _), (2, _), (7, _), (8, _), (98, .bool (decide (2 ≤ (w64 (a2 - x6)))))] rfl (J.cond rfl (fun c4 => ?_) (fun c4 => ?_)))
    ·replace H := Zi c4 H
     refine J.seq (J.region ?_)
     refine RJ.run Za 3 rfl (RJ.fin [(0, _), (1, _), (2, _), (7, _), (8, _), (10, .int .i64 (w64 (x6 + 1)))] rfl (J.block ?_))
     have h28 := ((h13.only [0] rfl).rds [] rfl)
     refine J.loop (fun kk env w => ∃ (x9 : List (Int)) (x10 : Int), env = [(0, .slice A1 x9.length c_1), (1, .int .i64 a1), (2, .int .i64 a2), (7, .int .i64 x6), (8, .int .i64 x3), (10, .int .i64 x10)] ∧ St w0 F0 [Zf 70 (.int .u32) x9 (.slice A1 x9.length c_1)] [] w ∧ Q58.l1 kk a1 a2 x3 x6 x9 x10 = some r ∧ kk ≤ k4 ∧ x9.length = a0.length) (k := k4) ⟨x8, (w64 (x6 + 1)), rfl, h28, H, Nat.le_refl _, e12⟩ ?_
     rintro k5 env w15 ⟨x9, x10, rfl, h14, H, hk5, e13⟩
     cases k5 with
     | zero => exact nomatch (show none = some r from H)
     | succ k5 =>
      rw [Q58.l1] at H
      refine J.seq (J.seq (J.region ?_))
      refine RJ.run Za 3 rfl (RJ.fin [(0, _), (1, _), (2, _), (7, _), (8, _), (10, _), (103, .bool (decide (x10 < a2)))] rfl (J.cond rfl (fun c5 => ?_) (fun c5 => ?_)))
      ·replace H := Zi c5 H
       refine J.skip (J.seq (J.block (J.seq (J.seq ?_))))
       refine J.heldSt mix h14 ?_
       have h15 := h14.drew
       refine HJ.run Za rfl [0, 1, 4, 5, 6] rfl ?_
       obtain ⟨⟨p5, p6⟩, H⟩ := Zo H
       have e14 := Zy h15.wh (Gives.of 0 rfl Zl) p5 p6
       refine HJ.q (i := 2) rfl rfl rfl rfl rfl rfl (Zk Za rfl rfl rfl rfl rfl e14 p5 p6) (HJ.q (i := 3) rfl rfl rfl rfl rfl rfl (Ze (f := 0) Za rfl (fun w e => e) (Gives.of 0 rfl Zl) p5 p6 rfl rfl rfl rfl rfl) ?_)
       obtain ⟨⟨p7, p8⟩, H⟩ := Zo H
       refine HJ.q (i := 7) rfl rfl rfl rfl rfl rfl (Zk Za rfl rfl rfl rfl rfl e14 p7 p8) (HJ.q (i := 8) rfl rfl rfl rfl rfl rfl (Ze (f := 0) Za rfl (fun w e => e) (Gives.of 0 rfl Zl) p7 p8 rfl rfl rfl rfl rfl) ?_)
       obtain ⟨r1, q1, H⟩ := Zj H
       refine HJ.op (i := 9) rfl rfl rfl rfl rfl (Zd [] (Q4.spec q1) rfl rfl rfl h15 rfl Zm) ?_
       rintro _ w16 ⟨_, ⟨rfl, rfl⟩, h16⟩
       replace h16 : St w0 F0 [_] _ _ := h16
       refine ⟨⟨[], h16⟩, ?_⟩
       refine HJ.run Za rfl [10] rfl (HJ.fin [(0, _), (1, _), (2, _), (7, _), (8, _), (10, _), (116, .bool (!r1))] rfl rfl (J.cond rfl (fun c6 => ?_) (fun c6 => ?_)))
       ·replace H := Zi c6 H
        refine J.narrow [(0, _), (1, _), (2, _), (7, _), (8, _)] rfl (J.exit ?_)
        have h17 := ((h16.only [0] rfl).rds [] rfl)
        exact ⟨k5, x9, x6, rfl, h17, H, by omega, e13⟩
       replace H := Zg c6 H
       refine J.skip (J.mid (fun env w => env = [(0, .slice A1 ((x9.set x10.toNat (gt x9 (w64 (x10 - 1)))).set (w64 (x10 - 1)).toNat (gt x9 x10)).length c_1), (1, .int .i64 a1), (2, .int .i64 a2), (7, .int .i64 x6), (8, .int .i64 x3), (10, .int .i64 x10)] ∧ St w0 F0 [Zf 70 (.int .u32) ((x9.set x10.toNat (gt x9 (w64 (x10 - 1)))).set (w64 (x10 - 1)).toNat (gt x9 x10)) (.slice A1 ((x9.set x10.toNat (gt x9 (w64 (x10 - 1)))).set (w64 (x10 - 1)).toNat (gt x9 x10)).length c_1)] [] w) ?_ ?_)
       ·refine J.heldSt mix (h16.only [] rfl) ?_
        have h20 := h16.drew
        refine HJ.run Za rfl [0, 1, 2, 3, 4, 5, 6, 7, 10, 11] rfl (HJ.q (i := 8) rfl rfl rfl rfl rfl rfl (Zk Za rfl rfl rfl rfl rfl e14 p7 p8) (HJ.q (i := 12) rfl rfl rfl rfl rfl rfl (Zk Za rfl rfl rfl rfl rfl e14 p5 p6) (HJ.pick [9, 13] (i := 9) rfl rfl rfl rfl ((Zs ?_ (Zs ?_ Z4))))))
        ·refine HS.op (i := 9) rfl rfl rfl (OpT.ofq (Ze (f := 0) Za rfl h20.wht (Gives.of 0 rfl Zl) p7 p8 rfl rfl rfl rfl rfl)) ?_
         rintro _ _ ⟨rfl, rfl⟩
         replace h20 : St w0 F0 [_] _ _ := h20
         refine ⟨⟨[_], h20⟩, ?_⟩
         refine HJ.op (i := 13) rfl rfl rfl rfl rfl (OpT.ofq (Ze (f := 0) Za rfl h20.wht (Gives.of 0 rfl Zl) p5 p6 rfl rfl rfl rfl rfl)) ?_
         rintro _ _ ⟨rfl, rfl⟩
         replace h20 : St w0 F0 [_] _ _ := h20
         refine ⟨⟨[_], h20⟩, ?_⟩
         refine HJ.q (i := 14) rfl rfl rfl rfl rfl rfl (Zk Za rfl rfl rfl rfl rfl e14 p5 p6) (HJ.op (i := 15) rfl rfl rfl rfl rfl (Zp (ty := (.int .u32)) (f := 0) (ix := x10) Za rfl (gt x9 (w64 (x10 - 1))) 0 rfl h20 rfl rfl p5 p6 rfl rfl rfl rfl rfl rfl rfl) ?_)
         intro _ w19 h21
         replace h21 : St w0 F0 [Zf 70 (.int .u32) (x9.set x10.toNat (gt x9 (w64 (x10 - 1)))) (.slice A1 (x9.set x10.toNat (gt x9 (w64 (x10 - 1)))).length c_1)] _ _ := h21
         refine ⟨⟨[_], h21⟩, ?_⟩
         have e17 : (x9.set x10.toNat (gt x9 (w64 (x10 - 1)))).length = a0.length := List.length_set.trans e13
         refine HJ.q (i := 16) rfl rfl rfl rfl rfl rfl (Zk Za rfl rfl rfl rfl rfl e14 p7 p8) (HJ.op (i := 17) rfl rfl rfl rfl rfl (Zp (ty := (.int .u32)) (f := 0) (ix := (w64 (x10 - 1))) Za rfl (gt x9 x10) 0 rfl h21 rfl rfl p7 (by simpa only [List.length_set] using p8) rfl rfl rfl rfl rfl rfl rfl) ?_)
         intro _ w20 h22
         replace h22 : St w0 F0 [Zf 70 (.int .u32) ((x9.set x10.toNat (gt x9 (w64 (x10 - 1)))).set (w64 (x10 - 1)).toNat (gt x9 x10)) (.slice A1 ((x9.set x10.toNat (gt x9 (w64 (x10 - 1)))).set (w64 (x10 - 1)).toNat (gt x9 x10)).length c_1)] _ _ := h22
         refine ⟨⟨[_], h22⟩, ?_⟩
         have e18 : ((x9.set x10.toNat (gt x9 (w64 (x10 - 1)))).set (w64 (x10 - 1)).toNat (gt x9 x10)).length = a0.length := List.length_set.trans e17
         refine HJ.fin [(0, .slice A1 x9.length c_1), (1, .int .i64 a1), (2, .int .i64 a2), (7, .int .i64 x6), (8, .int .i64 x3), (10, .int .i64 x10)] rfl rfl ?_
         exact Zq ⟨(by simp only [List.length_set]), ((h22.only [0] rfl).rds [] rfl)⟩
        ·refine HS.op (i := 13) rfl rfl rfl (OpT.ofq (Ze (f := 0) Za rfl h20.wht (Gives.of 0 rfl Zl) p5 p6 rfl rfl rfl rfl rfl)) ?_
         rintro _ _ ⟨rfl, rfl⟩
         replace h20 : St w0 F0 [_] _ _ := h20
         refine ⟨⟨[_], h20⟩, ?_⟩
         refine HJ.op (i := 9) rfl rfl rfl rfl rfl (OpT.ofq (Ze (f := 0) Za rfl h20.wht (Gives.of 0 rfl Zl) p7 p8 rfl rfl rfl rfl rfl)) ?_
         rintro _ _ ⟨rfl, rfl⟩
         replace h20 : St w0 F0 [_] _ _ := h20
         refine ⟨⟨[_], h20⟩, ?_⟩
         refine HJ.q (i := 14) rfl rfl rfl rfl rfl rfl (Zk Za rfl rfl rfl rfl rfl e14 p5 p6) (HJ.op (i := 15) rfl rfl rfl rfl rfl (Zp (ty := (.int .u32)) (f := 0) (ix := x10) Za rfl (gt x9 (w64 (x10 - 1))) 0 rfl h20 rfl rfl p5 p6 rfl rfl rfl rfl rfl rfl rfl) ?_)
         intro _ w21 h23
         replace h23 : St w0 F0 [Zf 70 (.int .u32) (x9.set x10.toNat (gt x9 (w64 (x10 - 1)))) (.slice A1 (x9.set x10.toNat (gt x9 (w64 (x10 - 1)))).length c_1)] _ _ := h23
         refine ⟨⟨[_], h23⟩, ?_⟩
         have e19 : (x9.set x10.toNat (gt x9 (w64 (x10 - 1)))).length = a0.length := List.length_set.trans e13
         refine HJ.q (i := 16) rfl rfl rfl rfl rfl rfl (Zk Za rfl rfl rfl rfl rfl e14 p7 p8) (HJ.op (i := 17) rfl rfl rfl rfl rfl (Zp (ty := (.int .u32)) (f := 0) (ix := (w64 (x10 - 1))) Za rfl (gt x9 x10) 0 rfl h23 rfl rfl p7 (by simpa only [List.length_set] using p8) rfl rfl rfl rfl rfl rfl rfl) ?_)
         intro _ w22 h24
         replace h24 : St w0 F0 [Zf 70 (.int .u32) ((x9.set x10.toNat (gt x9 (w64 (x10 - 1)))).set (w64 (x10 - 1)).toNat (gt x9 x10)) (.slice A1 ((x9.set x10.toNat (gt x9 (w64 (x10 - 1)))).set (w64 (x10 - 1)).toNat (gt x9 x10)).length c_1)] _ _ := h24
         refine ⟨⟨[_], h24⟩, ?_⟩
         have e20 : ((x9.set x10.toNat (gt x9 (w64 (x10 - 1)))).set (w64 (x10 - 1)).toNat (gt x9 x10)).length = a0.length := List.length_set.trans e19
         refine HJ.fin [(0, .slice A1 x9.length c_1), (1, .int .i64 a1), (2, .int .i64 a2), (7, .int .i64 x6), (8, .int .i64 x3), (10, .int .i64 x10)] rfl rfl ?_
         exact Zq ⟨(by simp only [List.length_set]), ((h24.only [0] rfl).rds [] rfl)⟩
       rintro env w23 ⟨rfl, h25⟩
       have e21 : ((x9.set x10.toNat (gt x9 (w64 (x10 - 1)))).set (w64 (x10 - 1)).toNat (gt x9 x10)).length = a0.length := by first | (simp only [List.length_set]; done) | (simp only [List.length_set]; exact e13)
       refine J.region (RJ.run Za 3 rfl (RJ.fin [(0, .slice A1 ((x9.set x10.toNat (gt x9 (w64 (x10 - 1)))).set (w64 (x10 - 1)).toNat (gt x9 x10)).length c_1), (1, _), (2, _), (7, _), (8, _), (10, .int .i64 (w64 (x10 + 1)))] rfl ?_))
       have h26 := ((h25.only [0] rfl).rds [] rfl)
       exact ⟨k5, by omega, ((x9.set x10.toNat (gt x9 (w64 (x10 - 1)))).set (w64 (x10 - 1)).toNat (gt x9 x10)), (w64 (x10 + 1)), rfl, h26, H, by omega, e21⟩
      replace H := Zg c5 H
      refine J.narrow [(0, _), (1, _), (2, _), (7, _), (8, _)] rfl (J.exit ?_)
      have h27 := ((h14.only [0] rfl).rds [] rfl)
      exact ⟨k5, x9, x6, rfl, h27, H, by omega, e13⟩
    replace H := Zg c4 H
    refine J.narrow [(0, _), (1, _), (2, _), (7, _), (8, _)] rfl (J.skip ?_)
    have h29 := ((h13.only [0] rfl).rds [] rfl)
    exact ⟨k4, x8, x6, rfl, h29, H, by omega, e12⟩
   rintro env w3 ⟨k2, x4, x5, rfl, h2, H, hk2, e2⟩
   refine J.region (RJ.run Za 3 rfl (RJ.fin [(0, _), (1, _), (2, _), (7, _), (8, .int .i64 (w64 (x3 + 1)))] rfl ?_))
   have h3 := ((h2.only [0] rfl).rds [] rfl)
   exact ⟨k2, by omega, x4, x5, (w64 (x3 + 1)), rfl, h3, H, e2⟩
  replace H := Zg c1 H
  refine J.exit (J.seq (J.region ?_))
  refine RJ.run Za 1 rfl (RJ.fin [(6, .bool false)] rfl (J.ret ?_))
  obtain rfl := Option.some.inj H
  exact ⟨_, _, _, (Zb rfl), ⟨rfl, rfl, e1⟩, h1.only [0] rfl⟩

end Go.SK.T
