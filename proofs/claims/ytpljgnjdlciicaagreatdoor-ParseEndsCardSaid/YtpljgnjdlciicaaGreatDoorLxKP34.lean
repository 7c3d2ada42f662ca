import Derived.Test.YtpljgnjdlciicaaGreatDoorLxKP3
import Derived.Test.YtpljgnjdlciicaaGreatDoorLxKP33
import Derived.Test.YtpljgnjdlciicaaGreatDoorProg
namespace Go.Proofs.YtpljgnjdlciicaaGreatDoor
open Go Go.Ev Go.Proofs
noncomputable def extT : List (Nat × Nat) := [(165, 1), (153, 2), (152, 3)]
def rawT (f : Nat) : Nat := match f with
  | 153 => 2 ^ 60
  | _ => 0
noncomputable def keepT0 : List (Nat × List (Nat × List Nat)) :=
[(3, []),
 (120, []),
 (36, []),
 (240, []),
 (134, []),
 (210, []),
 (211, [(2, [0, 1])]),
 (247, [(1, [0, 1])]),
 (248, []),
 (249, [(1, [0, 1])]),
 (212, []),
 (7, []),
 (8, []),
 (87, []),
 (128, []),
 (43, []),
 (21, [(1, [0, 1, 5, 6]), (6, [0, 1, 5, 6]), (8, [6])]),
 (133, []),
 (39, []),
 (129, []),
 (41, []),
 (40, []),
 (96, []),
 (170, []),
 (44, [(4, [0, 1, 4, 5]), (11, [0, 1, 4, 5])]),
 (95, []),
 (19, [(4, [0, 5])]),
 (20, [(3, [0, 1]), (5, [0, 1, 7, 32, 33, 34])]),
 (86, []),
 (83, []),
 (93, []),
 (94, []),
 (97, [(9, [1, 2, 3]), (5, [1, 2, 3])]),
 (98, [(1, [0, 3, 4])]),
 (130, []),
 (35, [(2, [0, 1, 5])]),
 (37, [(21, [0, 2])]),
 (38, []),
 (42, [(3, [3, 7, 8, 9])]),
 (131, []),
 (132, []),
 (82, []),
 (85, [(6, [0, 2, 3, 4, 6, 40, 41]), (15, [0, 2, 8])]),
 (84, []),
 (88, []),
 (89, [(2, [0, 2, 3]), (14, [0, 2, 3, 4, 5, 6]), (19, [0, 2, 3, 5, 6])]),
 (90, [(7, [0, 6])]),
 (91, []),
 (92, [(6, [0, 2, 3]), (11, [0, 2])]),
 (167, [(3, [1, 2, 18, 19])]),
 (168, []),
 (169, [(5, [2, 3])]),
 (121, []),
 (122, []),
 (123, [(3, [0, 1, 5])]),
 (124, [(4, [0, 3])]),
 (125, [(12, [0, 5]), (19, [5, 8, 9, 10, 11])]),
 (126, [(2, [0, 3])]),
 (127, [(5, [0, 4, 5])]),
 (209, []),
 (154, []),
 (156, [(1, [0, 1])]),
 (155, [(1, [0, 1])]),
 (157, [(2, [0, 2, 4])]),
 (159, [(1, [0, 1]), (4, [0])]),
 (158, [(1, [0, 1]), (4, [0])]),
 (162, []),
 (163, []),
 (164, []),
 (78, [(3, [0, 3, 8, 9]), (9, [0, 3, 8, 9])]),
 (197, []),
 (198, []),
 (202, []),
 (203, []),
 (204, [(21, [0, 1, 2, 8, 9]), (25, [0, 1, 2, 8, 9]), (32, [0, 1, 2, 8, 9, 10]), (36, [1, 8, 9, 10, 11, 12, 13, 99, 100, 101]), (55, [1, 8, 9, 10, 11, 12, 13, 99, 100, 101]), (46, [1, 8, 9, 10, 11, 12, 13, 16, 99, 100, 101])]),
 (205, []),
 (239, []),
 (241, []),
 (242, [(5, [0, 3, 4]), (10, [0, 3, 4, 5]), (11, [0, 3, 4, 5])]),
 (243, []),
 (244, []),
 (262, [])]
noncomputable def keepTr : Tr (Tr (List Nat)) := keepT0.foldr (fun (f, l) t => t.set f (some (l.foldr (fun (i, k) u => u.set i (some k)) .nil))) .nil
noncomputable def keepF (f i : Nat) : Option (List Nat) := match keepTr.get f with
  | some t => t.get i
  | none => none
noncomputable def shpT0 : List (Nat × List (Nat × Nm)) :=
[(21, [(34, .one .lst)]),
 (20, [(22, .one .lst), (37, .agg [.int .i64, .int .i64, .str, .int .i64, .lst, .lst, .lst, .lst, .lst]), (39, .agg [.int .i64, .int .i64, .str, .int .i64, .lst, .lst, .lst, .lst, .lst])]),
 (41, [(10, .one .lst), (16, .one .lst)]),
 (44, [(75, .one .row), (103, .one .row), (80, .agg [.int .i64, .int .i64, .str, .int .i64, .lst, .lst, .lst, .lst, .lst, .bool]), (105, .agg [.int .i64, .int .i64, .str, .int .i64, .lst, .lst, .lst, .lst, .lst])]),
 (42, [(7, .one .lst), (12, .agg [.int .i64, .int .i64, .str, .int .i64, .lst, .lst, .lst, .lst, .lst]), (14, .agg [.int .i64, .int .i64, .str, .int .i64, .lst, .lst, .lst, .lst, .lst])]),
 (84, [(41, .one .row), (45, .one .row)]),
 (93, [(16, .one .lst), (23, .one .lst), (39, .one .lst)]),
 (94, [(10, .one .lst)]),
 (95, [(9, .one .lst)]),
 (96, [(13, .one .lst), (20, .agg [.int .i64, .int .i64, .int .i64, .str, .int .i64, .lst, .lst, .lst])]),
 (97, [(65, .raw), (66, .raw), (5, .one .ptr), (12, .one .ptr), (16, .one .ptr), (23, .one .ptr), (26, .one .ptr), (29, .one .ptr), (37, .one .ptr), (46, .one .ptr), (49, .one .ptr), (57, .one .ptr)]),
 (98, [(15, .agg [.int .i64, .int .i64, .str, .int .i64, .lst, .lst, .lst, .lst, .lst, .bool]), (37, .agg [.int .i64, .int .i64, .str, .int .i64, .lst, .lst, .lst, .lst, .lst]), (60, .agg [.int .i64, .int .i64, .str, .int .i64, .lst, .lst, .lst, .lst, .lst, .bool]), (70, .agg [.int .i64, .int .i64, .str, .int .i64, .lst, .lst, .lst, .lst, .lst]), (72, .agg [.int .i64, .int .i64, .str, .int .i64, .lst, .lst, .lst, .lst, .lst]), (25, .agg [.int .i64, .int .i64, .str, .int .i64, .lst, .lst, .lst, .lst, .lst])]),
 (123, [(7, .one .lst), (10, .one .lst), (32, .agg [.int .i64, .lst, .lst, .lst])]),
 (125, [(84, .one .bool)]),
 (127, [(38, .one .bool)]),
 (129, [(12, .one .lst), (19, .one .lst)]),
 (134, [(2, .one .ptr), (8, .one .ptr)]),
 (164, [(18, .one .bool)]),
 (167, [(5, .one .lst), (8, .one .lst), (11, .one .lst), (17, .one .lst), (23, .one .lst), (26, .one .lst), (29, .agg [.int .i64, .lst, .lst, .lst]), (33, .agg [.int .i64, .lst, .lst, .lst])]),
 (168, [(4, .one .ptr), (8, .one .ptr), (12, .one .ptr), (14, .one .ptr)]),
 (169, [(4, .one .ptr), (9, .one .ptr), (12, .one .ptr), (14, .one .ptr), (21, .one .ptr), (25, .one .lst), (26, .one .ptr)]),
 (204, [(99, .one .row)]),
 (205, [(14, .one .bool), (21, .one .bool), (28, .one .bool), (36, .one .bool)]),
 (207, [(4, .one .bool)]),
 (108, [(4, .one .bool)]),
 (208, [(4, .one .bool)]),
 (209, [(4, .one .ptr), (9, .one .ptr)]),
 (210, [(3, .one .ptr), (8, .one .ptr), (16, .agg [.int .i64, .int .i64, .str, .int .i64, .lst, .lst, .lst, .lst, .lst])]),
 (211, [(2, .one .ptr), (6, .one .ptr), (9, .one .ptr)]),
 (247, [(45, .one .row), (2, .one .ptr), (4, .one .ptr), (6, .one .ptr), (12, .one .ptr), (18, .one .ptr), (19, .one .ptr), (26, .one .ptr), (34, .one .ptr), (36, .one .ptr), (41, .one .ptr), (48, .one .ptr), (53, .one .ptr)]),
 (212, [(3, .one .ptr)]),
 (249, [(2, .one .ptr), (6, .one .ptr), (8, .one .ptr), (13, .one .ptr), (14, .one .ptr), (20, .one .ptr), (27, .one .ptr), (32, .one .ptr)])]
noncomputable def shpTr : Tr (Tr Nm) := shpT0.foldr (fun (f, l) t => t.set f (some (l.foldr (fun (i, k) u => u.set i (some k)) .nil))) .nil
noncomputable def shpF (f i : Nat) : Option Nm := match shpTr.get f with
  | some t => t.get i
  | none => none
def liveP : List Value → Prog
  | [] => tabQ 2 1 3 fun vs => match vs with
    | [.int .i64 _] => .ret (.bool true)
    | _ => .fail
  | _ => .fail
noncomputable def EnL : Env := Env.of Tryz.prog extT (fun _ => none) rawT (fun _ _ => none) false false (fun _ _ => none) 1000000
noncomputable def cloneP (g : Nat) : List Value → Prog
  | [.iface t (.agg ⟨[]⟩)] => gd (Nat.beq t LF) (.ret (lstV []))
  | args => callF EnL (runP EnL 20) g args
noncomputable def orcT : List (Nat × (List Value → Prog)) := [(6, liveP), (166, containsP), (207, cloneP 207), (108, cloneP 108), (208, cloneP 208)]
noncomputable def orcTr : Tr (List Value → Prog) := orcT.foldr (fun (f, p) t => t.set f (some p)) .nil
noncomputable def orcF (f : Nat) : Option (List Value → Prog) := orcTr.get f
noncomputable def En : Env := Env.of Tryz.prog extT orcF rawT keepF true true shpF 400
end Go.Proofs.YtpljgnjdlciicaaGreatDoor
