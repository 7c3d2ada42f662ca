/- The evaluator's world for the laws of lex and text. -/
import Derived.Test.YtmjbmbmnnephjaaGreatDoorEvRun
import Derived.Test.YtmjbmbmnnephjaaGreatDoorProg
namespace Go.Proofs.YtmjbmbmnnephjaaGreatDoor
open Go Go.Ev Go.Proofs
noncomputable def extT : List (Nat × Nat) := [(180, 1), (183, 2), (182, 3)]
def rawT (f : Nat) : Nat := match f with
  | 169 | 19 => 1
  | 144 | 183 => 2 ^ 60
  | _ => 0
noncomputable def keepT0 : List (Nat × List (Nat × List Nat)) :=
[(3, [(8, [0, 3, 6, 7]), (13, [0, 3, 6, 7, 8]), (22, [0, 6])]),
 (5, [(3, [0, 1, 5, 6])]),
 (11, [(4, [0, 5])]),
 (12, []),
 (13, []),
 (19, [(3, [3, 7, 8, 9]), (8, [3, 6, 7, 8, 9])]),
 (20, [(3, [0, 3, 4]), (7, [0, 3, 4]), (4, [0, 3, 4])]),
 (21, [(2, [0, 5, 6])]),
 (22, [(4, [0, 3])]),
 (23, [(4, [0, 1, 2, 7])]),
 (32, [(2, [0, 1, 5])]),
 (34, [(21, [0, 2])]),
 (35, []),
 (36, [(11, [1, 2, 9]), (18, [1, 2, 10])]),
 (37, [(3, [1, 3, 4])]),
 (40, [(3, [0, 3, 8, 9]), (9, [0, 3, 8, 9])]),
 (41, [(10, [0, 1, 5]), (11, [0, 1, 5]), (12, [0, 1, 5, 39, 40, 41]), (16, [0, 1, 5, 7, 39, 40, 41]), (22, [1, 8, 63, 64, 65])]),
 (42, [(4, [0, 3, 4, 5]), (5, [0, 3, 4, 5])]),
 (43, []),
 (44, []),
 (45, []),
 (46, []),
 (18, [(4, [2, 3, 5]), (9, [2, 3, 6]), (14, [2, 3, 7])]),
 (59, []),
 (60, []),
 (62, [(6, [0, 2, 3, 4, 6, 40, 41]), (15, [0, 2, 8])]),
 (61, []),
 (63, []),
 (64, [(2, [0, 2, 3]), (14, [0, 2, 3, 4, 5, 6]), (19, [0, 2, 3, 5, 6])]),
 (65, [(7, [0, 6])]),
 (66, []),
 (67, [(6, [0, 2, 3]), (11, [0, 2])]),
 (68, []),
 (69, []),
 (70, [(4, [1, 3]), (5, [1, 3, 4])]),
 (71, [(5, [1, 3]), (18, [1]), (19, [1, 4])]),
 (16, []),
 (77, [(3, [0, 1])]),
 (78, []),
 (55, []),
 (79, []),
 (80, []),
 (117, []),
 (118, []),
 (119, [(3, [0, 1, 5])]),
 (120, [(4, [0, 3])]),
 (121, [(12, [0, 5]), (19, [5, 8, 9, 10, 11])]),
 (122, [(2, [0, 3])]),
 (123, [(5, [0, 4, 5])]),
 (124, []),
 (125, []),
 (15, []),
 (14, []),
 (126, [(3, [1, 3, 4]), (4, [1, 3, 4])]),
 (127, [(4, [1, 3]), (9, [1, 3, 4])]),
 (128, []),
 (129, [(2, [0, 3])]),
 (134, []),
 (135, []),
 (174, []),
 (112, [(1, [0, 1])]),
 (175, [(1, [0, 1])]),
 (113, [(2, [0, 2, 4])]),
 (114, [(1, [0, 1]), (4, [0])]),
 (176, [(1, [0, 1]), (4, [0])]),
 (136, []),
 (178, []),
 (179, []),
 (211, []),
 (171, []),
 (184, []),
 (212, []),
 (213, [(21, [0, 1, 2, 8, 9]), (25, [0, 1, 2, 8, 9]), (32, [0, 1, 2, 8, 9, 10]), (36, [1, 8, 9, 10, 11, 12, 13, 99, 100, 101]), (55, [1, 8, 9, 10, 11, 12, 13, 99, 100, 101]), (46, [1, 8, 9, 10, 11, 12, 13, 16, 99, 100, 101])]),
 (214, []),
 (141, []),
 (226, []),
 (227, []),
 (228, [(5, [0, 3, 4]), (10, [0, 3, 4, 5]), (11, [0, 3, 4, 5])]),
 (229, []),
 (230, []),
 (234, [])]
noncomputable def keepTr : Tr (Tr (List Nat)) := keepT0.foldr (fun (f, l) t => t.set f (some (l.foldr (fun (i, k) u => u.set i (some k)) .nil))) .nil
noncomputable def keepF (f i : Nat) : Option (List Nat) := match keepTr.get f with
  | some t => t.get i
  | none => none
noncomputable def shpT0 : List (Nat × List (Nat × Nm)) :=
[(3, [(47, .agg [.int .i64, .int .i64, .int .i64, .str, .int .i64, .lst, .lst, .lst]), (105, .agg [.int .i64, .lst, .lst, .lst])]),
 (13, [(4, .agg [.int .i64, .lst, .lst, .lst]), (9, .agg [.int .i64, .lst, .lst, .lst])]),
 (19, [(11, .one .ptr), (12, .agg [.int .i64, .int .i64, .int .i64, .str, .int .i64, .lst, .lst, .lst])]),
 (23, [(48, .agg [.int .i64, .lst, .lst, .lst]), (53, .agg [.int .i64, .lst, .lst, .lst])]),
 (18, [(15, .one .lst), (18, .one .lst), (24, .one .lst), (27, .one .lst), (33, .one .lst), (36, .one .lst), (42, .one .lst), (48, .one .lst), (53, .one .lst), (60, .one .lst), (66, .one .lst), (71, .one .lst), (78, .one .lst), (84, .one .lst), (87, .agg [.int .i64, .lst, .lst, .lst]), (89, .one .lst), (92, .agg [.int .i64, .lst, .lst, .lst])]),
 (134, [(6, .one .bool), (10, .one .ptr), (19, .one .bool)]),
 (135, [(13, .one .row), (19, .one .row)]),
 (36, [(27, .one .lst), (37, .one .lst), (47, .one .lst), (52, .agg [.int .i64, .lst, .lst, .lst]), (54, .agg [.int .i64, .lst, .lst, .lst]), (56, .agg [.int .i64, .lst, .lst, .lst]), (61, .one .lst), (72, .one .lst), (75, .agg [.int .i64, .lst, .lst, .lst]), (78, .one .lst), (80, .agg [.int .i64, .lst, .lst, .lst]), (87, .one .lst), (93, .one .lst), (96, .agg [.int .i64, .lst, .lst, .lst])]),
 (37, [(7, .one .lst), (14, .one .lst), (17, .agg [.int .i64, .lst, .lst, .lst])]),
 (69, [(8, .one .lst), (12, .agg [.int .i64, .lst, .lst, .lst]), (15, .one .lst), (23, .one .lst), (28, .one .lst), (37, .one .lst)]),
 (70, [(10, .one .lst), (16, .one .lst)]),
 (71, [(6, .agg [.int .i64, .lst, .lst, .lst]), (10, .one .lst), (13, .one .lst), (25, .one .lst), (31, .one .lst), (38, .one .lst), (49, .one .lst), (54, .one .lst), (62, .one .lst), (70, .one .lst), (74, .one .lst), (86, .agg [.int .i64, .lst, .lst, .lst]), (92, .agg [.int .i64, .lst, .lst, .lst]), (99, .one .lst), (104, .one .lst), (106, .agg [.int .i64, .lst, .lst, .lst]), (110, .one .lst), (112, .agg [.int .i64, .lst, .lst, .lst]), (117, .one .lst), (124, .one .lst), (134, .one .lst), (146, .one .lst)]),
 (16, [(8, .one .lst), (11, .agg [.int .i64, .lst, .lst, .lst]), (14, .one .lst), (21, .one .lst), (34, .one .lst), (39, .one .lst), (41, .agg [.int .i64, .lst, .lst, .lst])]),
 (119, [(7, .one .lst), (10, .one .lst), (32, .agg [.int .i64, .lst, .lst, .lst])]),
 (121, [(84, .one .bool)]),
 (123, [(38, .one .bool)]),
 (126, [(6, .one .lst), (11, .one .lst), (17, .one .lst), (24, .one .lst), (27, .agg [.int .i64, .lst, .lst, .lst]), (32, .one .lst), (38, .one .lst)]),
 (127, [(6, .one .lst), (11, .one .lst), (14, .one .lst), (20, .one .lst), (26, .one .lst), (33, .one .lst), (42, .one .lst), (45, .agg [.int .i64, .lst, .lst, .lst]), (55, .one .lst), (60, .one .lst)]),
 (128, [(3, .agg [.int .i64, .lst, .lst, .lst])]),
 (179, [(18, .one .bool)]),
 (214, [(14, .one .bool), (21, .one .bool), (28, .one .bool), (36, .one .bool)]),
 (61, [(41, .one .row), (45, .one .row)]),
 (213, [(99, .one .row)])]
noncomputable def shpTr : Tr (Tr Nm) := shpT0.foldr (fun (f, l) t => t.set f (some (l.foldr (fun (i, k) u => u.set i (some k)) .nil))) .nil
noncomputable def shpF (f i : Nat) : Option Nm := match shpTr.get f with
  | some t => t.get i
  | none => none
/-- The laws' live(): told by what it comes to. -/
def liveP : List Value → Prog
  | [] => .ret (.bool true)
  | _ => .fail
def orcF (f : Nat) : Option (List Value → Prog) := match Nat.beq f 10 with
  | true => some liveP
  | false => none
noncomputable def En : Env := Env.of Tryz.prog extT orcF rawT keepF true true shpF 400
end Go.Proofs.YtmjbmbmnnephjaaGreatDoor
