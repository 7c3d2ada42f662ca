/- The evaluator's world for the law of pieces of tokens. -/
import Derived.Test.YtpljgnjdlciicaaGreatDoorLyKQ3
import Derived.Test.YtpljgnjdlciicaaGreatDoorLyKQ19
import Derived.Test.YtpljgnjdlciicaaGreatDoorProg
namespace Go.Proofs.YtpljgnjdlciicaaGreatDoor
open Go Go.Ev Go.Proofs
noncomputable def extT : List (Nat × Nat) := [(165, 1), (153, 2), (152, 3)]
def rawT (f : Nat) : Nat := match f with
  | 153 => 2 ^ 60
  | 59 => 2 ^ 60
  | 60 => 1
  | 108 => 2 ^ 60 + 1
  | 109 => 1
  | 110 => 1
  | 139 => 1
  | 173 => 1
  | 174 => 1
  | 175 => 1
  | 176 => 1
  | 177 => 1
  | 178 => 1
  | 180 => 1
  | 181 => 1
  | 213 => 1
  | 216 => 1
  | 217 => 1
  | 250 => 1
  | _ => 0
noncomputable def keepT0 : List (Nat × List (Nat × List Nat)) :=
[(5, [(12, [3, 6, 7, 8, 9]), (13, [3, 6, 7, 8, 9])]),
 (14, [(4, [0, 5])]),
 (15, [(4, [3, 4, 8, 9, 10]), (10, [3, 4, 8, 9, 10])]),
 (16, [(5, [0, 3, 4, 5, 6]), (6, [0, 3, 4, 5, 6])]),
 (17, [(4, [0, 1, 5])]),
 (29, [(7, [0, 3, 4, 5, 6]), (26, [0, 3, 10]), (37, [0, 3, 11]), (42, [0, 3, 12]), (12, [0, 3, 4, 5]), (14, [0, 3, 4, 5])]),
 (30, [(12, [0])]),
 (31, [(4, [0, 3, 4, 5]), (10, [0, 3, 4, 5]), (5, [0, 3, 4, 5])]),
 (32, [(4, [2, 3, 5]), (9, [2, 3, 6]), (14, [2, 3, 7])]),
 (62, [(2, [0, 3])]),
 (65, []),
 (66, [(2, [0, 2, 3]), (13, [0, 2, 3, 4, 7]), (22, [0, 2, 4])]),
 (67, [(2, [0, 2, 3]), (17, [0, 2, 3, 4, 5]), (14, [0, 2, 3, 4, 9]), (26, [0, 2, 3])]),
 (68, [(2, [0, 1, 7]), (5, [0, 1, 7])]),
 (63, []),
 (64, []),
 (69, []),
 (72, [(4, [0, 3])]),
 (73, [(2, [0, 1, 5])]),
 (71, []),
 (70, []),
 (111, []),
 (112, [(2, [0, 1, 8]), (16, [8, 9, 10, 11]), (19, [8, 9, 10, 11]), (22, [8, 9, 10, 11, 12, 13, 14, 15]), (23, [8, 9, 10, 11, 12, 13, 14, 15]), (31, [8, 10, 11, 12, 13, 14]), (33, [8, 10, 11, 12, 13, 14]), (35, [8, 10, 11, 12, 13, 14]), (39, [8, 10, 11, 12, 13])]),
 (113, []),
 (141, [(5, [0, 4, 5])]),
 (184, []),
 (185, [])]
noncomputable def keepTr : Tr (Tr (List Nat)) := keepT0.foldr (fun (f, l) t => t.set f (some (l.foldr (fun (i, k) u => u.set i (some k)) .nil))) .nil
noncomputable def keepF (f i : Nat) : Option (List Nat) := match keepTr.get f with
  | some t => t.get i
  | none => none
noncomputable def shpT0 : List (Nat × List (Nat × Nm)) :=
[(5, [(43, .one .lst), (47, .one .lst), (55, .one .lst), (66, .one .lst), (73, .one .lst), (84, .one .lst)]),
 (15, [(32, .one .row), (36, .one .row), (13, .agg [.int .i64, .int .i64, .int .i64, .str, .int .i64, .lst, .lst, .lst]), (30, .agg [.int .i64, .int .i64, .int .i64, .str, .int .i64, .lst, .lst, .lst]), (42, .agg [.int .i64, .int .i64, .int .i64, .str, .int .i64, .lst, .lst, .lst])]),
 (16, [(44, .agg [.int .i64, .int .i64, .int .i64, .str, .int .i64, .lst, .lst, .lst])]),
 (17, [(72, .agg [.int .i64, .lst, .lst, .lst]), (77, .agg [.int .i64, .lst, .lst, .lst])]),
 (32, [(15, .one .lst), (18, .one .lst), (24, .one .lst), (27, .one .lst), (33, .one .lst), (36, .one .lst), (42, .one .lst), (48, .one .lst), (53, .one .lst), (60, .one .lst), (66, .one .lst), (71, .one .lst), (78, .one .lst), (84, .one .lst), (87, .agg [.int .i64, .lst, .lst, .lst]), (89, .one .lst), (92, .agg [.int .i64, .lst, .lst, .lst])]),
 (65, [(37, .one .row), (41, .one .row)])]
noncomputable def shpTr : Tr (Tr Nm) := shpT0.foldr (fun (f, l) t => t.set f (some (l.foldr (fun (i, k) u => u.set i (some k)) .nil))) .nil
noncomputable def shpF (f i : Nat) : Option Nm := match shpTr.get f with
  | some t => t.get i
  | none => none
/-- The table of blanks. -/
def spaceTab : List Int := (List.range 256).map fun i => if Nat.beq i 9 || (Nat.beq i 10 || (Nat.beq i 11 || (Nat.beq i 12 || (Nat.beq i 13 || Nat.beq i 32)))) then 1 else 0
/-- The law's live(): told by what it comes to; it looks at the library's bound of short needles, whatever that is, and into the table of blanks. -/
def liveP : List Value → Prog
  | [] => tabQ 2 1 3 fun vs => match vs with
    | [.int .i64 _] => tabQ 0 256 142 fun es => gd (isTab .u8 spaceTab es) (.ret (.bool true))
    | _ => .fail
  | _ => .fail
/-- The world of closed runs. -/
noncomputable def EnL : Env := Env.of Tryz.prog extT (fun _ => none) rawT (fun _ _ => none) false false (fun _ _ => none) 1000000
/-- slices.Clone: of what has no part, a list without parts (nil or not); else its own run. -/
noncomputable def cloneP (g : Nat) : List Value → Prog
  | [.iface t (.agg ⟨[]⟩)] => gd (Nat.beq t LF) (.ret (lstV []))
  | args => callF EnL (runP EnL 20) g args
noncomputable def orcT : List (Nat × (List Value → Prog)) := [(9, liveP)]
noncomputable def orcTr : Tr (List Value → Prog) := orcT.foldr (fun (f, p) t => t.set f (some p)) .nil
noncomputable def orcF (f : Nat) : Option (List Value → Prog) := orcTr.get f
noncomputable def En : Env := Env.of Tryz.prog extT orcF rawT keepF true true shpF 400
end Go.Proofs.YtpljgnjdlciicaaGreatDoor
