/- What comes of the points of a function: printed by the tool. -/
import Derived.Test.YtmjbmbmnnephjaaGreatDoorLxKL2
namespace Go.Proofs.YtmjbmbmnnephjaaGreatDoor
open Go Go.Ev Go.Proofs
set_option maxRecDepth 8000
set_option linter.unusedVariables false
theorem f4_eq (f : Nat) (x0_0 : Int) (x0_1 : List Value) (x0_2 : List Value) (x0_3 : List Value) : callF En (runP En (f + 1)) 4 [(Value.agg ⟨((Value.int IntKind.i64 x0_0) :: ((lstV x0_1) :: ((lstV x0_2) :: ((lstV x0_3) :: []))))⟩)] =
 (gd Bool.true
 (callP (fun v49 =>
 (cnd
 (callP (fun v50 =>
 (cnd
 (cnd
 (Prog.call (callF En (runP En f) 10 []) fun v51 =>
 (cnd
 (Prog.ret (Value.bool (boolOf v51)))
 Prog.fail
 (okK Kd.bool v51)))
 (callP (fun v52 =>
 (cnd
 (cnd
 (Prog.call (callF En (runP En f) 10 []) fun v53 =>
 (cnd
 (Prog.ret (Value.bool (boolOf v53)))
 Prog.fail
 (okK Kd.bool v53)))
 (callP (fun v54 =>
 (cnd
 (cnd
 (Prog.call (callF En (runP En f) 10 []) fun v55 =>
 (cnd
 (Prog.ret (Value.bool (boolOf v55)))
 Prog.fail
 (okK Kd.bool v55)))
 (callP (fun v56 =>
 (cnd
 (Prog.call (callF En (runP En f) 13 [(Value.agg ⟨((Value.int IntKind.i64 (intOf (at_ (aggOf v56) 0))) :: ((lstV (elems (at_ (aggOf v56) 1))) :: ((lstV (elems (at_ (aggOf v56) 2))) :: ((lstV (elems (at_ (aggOf v56) 3))) :: []))))⟩)]) fun v57 =>
 (cnd
 (cnd
 (Prog.call (callF En (runP En f) 10 []) fun v58 =>
 (cnd
 (Prog.ret (Value.bool (boolOf v58)))
 Prog.fail
 (okK Kd.bool v58)))
 (callP (fun v59 =>
 (cnd
 (Prog.call (callF En (runP En f) 14 [(Value.agg ⟨((Value.int IntKind.i64 (intOf (at_ (aggOf v59) 0))) :: ((lstV (elems (at_ (aggOf v59) 1))) :: ((lstV (elems (at_ (aggOf v59) 2))) :: ((lstV (elems (at_ (aggOf v59) 3))) :: []))))⟩)]) fun v60 =>
 (cnd
 (cnd
 (callP (fun v61 =>
 (cnd
 (Prog.call (callF En (runP En f) 15 [(Value.agg ⟨((Value.int IntKind.i64 (intOf (at_ (aggOf v61) 0))) :: ((lstV (elems (at_ (aggOf v61) 1))) :: ((lstV (elems (at_ (aggOf v61) 2))) :: ((lstV (elems (at_ (aggOf v61) 3))) :: []))))⟩)]) fun v62 =>
 (cnd
 (cnd
 (Prog.call (callF En (runP En f) 10 []) fun v63 =>
 (cnd
 (Prog.ret (Value.bool (boolOf v63)))
 Prog.fail
 (okK Kd.bool v63)))
 (callP (fun v64 =>
 (cnd
 (Prog.call (callF En (runP En f) 16 [(Value.agg ⟨((Value.int IntKind.i64 (intOf (at_ (aggOf v64) 0))) :: ((lstV (elems (at_ (aggOf v64) 1))) :: ((lstV (elems (at_ (aggOf v64) 2))) :: ((lstV (elems (at_ (aggOf v64) 3))) :: []))))⟩)]) fun v65 =>
 (cnd
 (cnd
 (Prog.call (callF En (runP En f) 10 []) fun v66 =>
 (cnd
 (Prog.ret (Value.bool (boolOf v66)))
 Prog.fail
 (okK Kd.bool v66)))
 (callP (fun v67 =>
 (cnd
 (Prog.call (callF En (runP En f) 17 [(Value.agg ⟨((Value.int IntKind.i64 (intOf (at_ (aggOf v67) 0))) :: ((lstV (elems (at_ (aggOf v67) 1))) :: ((lstV (elems (at_ (aggOf v67) 2))) :: ((lstV (elems (at_ (aggOf v67) 3))) :: []))))⟩)]) fun v68 =>
 (cnd
 (cnd
 (Prog.call (callF En (runP En f) 10 []) fun v69 =>
 (cnd
 (Prog.ret (Value.bool (boolOf v69)))
 Prog.fail
 (okK Kd.bool v69)))
 (Prog.call (callF En (runP En f) 11 [(Value.string (strOf (at_ (tupOf v68) 0)))]) fun v70 =>
 (cnd
 (Prog.seg (callF En (runP En f) 12 [(Value.int IntKind.i64 (intOf (at_ (tupOf v70) 1)))]) fun v71 s72 _ =>
 (cnd
 (cnd
 (Prog.seg (builtinA En Builtin.len (23 :: []) ((lstV (elems (at_ (tupOf v70) 0))) :: [])) fun v73 s74 _ =>
 (gdL 31 (writesOf s74) s74 [⟨1, writesOf s72, s72⟩]
 (cnd
 (cnd
 (cnd
 (cnd
 (cnd
 (cnd
 (cnd
 (cnd
 (cnd
 (cnd
 (cnd
 (cnd
 (cnd
 (cnd
 (cnd
 (cnd
 (Prog.seg (loadT En 32 (blkOf v49) (offOf v49)) fun v75 s76 _ =>
 (gdL 16777215 (writesOf s76) s76 [⟨5, writesOf s74, s74⟩, ⟨1, writesOf s72, s72⟩]
 (cnd
 (Prog.seg (callF En (runP En f) 18 [(Value.agg ⟨((Value.int IntKind.i64 (intOf (at_ (List.take 4 (List.drop 4 (Array.toList (Value.cells (at_ (elems (at_ (tupOf v70) 0)) 0))))) 0))) :: ((lstV (elems (at_ (List.take 4 (List.drop 4 (Array.toList (Value.cells (at_ (elems (at_ (tupOf v70) 0)) 0))))) 1))) :: ((lstV (elems (at_ (List.take 4 (List.drop 4 (Array.toList (Value.cells (at_ (elems (at_ (tupOf v70) 0)) 0))))) 2))) :: ((lstV (elems (at_ (List.take 4 (List.drop 4 (Array.toList (Value.cells (at_ (elems (at_ (tupOf v70) 0)) 0))))) 3))) :: []))))⟩), (Value.agg ⟨((Value.int IntKind.i64 (intOf (at_ (aggOf v75) 0))) :: ((lstV (elems (at_ (aggOf v75) 1))) :: ((lstV (elems (at_ (aggOf v75) 2))) :: ((lstV (elems (at_ (aggOf v75) 3))) :: []))))⟩)]) fun v77 s78 _ =>
 (gdL 536870911 (writesOf s78) s78 [⟨28, writesOf s76, s76⟩, ⟨5, writesOf s74, s74⟩, ⟨1, writesOf s72, s72⟩]
 (cnd
 (cnd
 (Prog.seg (callF En (runP En f) 10 []) fun v79 s80 _ =>
 (gdL 4294967295 (writesOf s80) s80 [⟨29, writesOf s78, s78⟩, ⟨28, writesOf s76, s76⟩, ⟨5, writesOf s74, s74⟩, ⟨1, writesOf s72, s72⟩]
 (cnd
 (Prog.ret (Value.bool (boolOf v79)))
 Prog.fail
 (okK Kd.bool v79))))
 (Prog.ret (Value.bool Bool.false))
 (boolOf v77))
 Prog.fail
 (okK Kd.bool v77))))
 Prog.fail
 ((isAggV v75) && (okKs ((Kd.int IntKind.i64) :: (Kd.lst :: (Kd.lst :: (Kd.lst :: [])))) (aggOf v75))))))
 Prog.fail
 (okKs ((Kd.int IntKind.i64) :: (Kd.lst :: (Kd.lst :: (Kd.lst :: [])))) (List.take 4 (List.drop 4 (Array.toList (Value.cells (at_ (elems (at_ (tupOf v70) 0)) 0)))))))
 Prog.fail
 (Nat.ble 4 (List.length (List.drop 4 (Array.toList (Value.cells (at_ (elems (at_ (tupOf v70) 0)) 0)))))))
 Prog.fail
 (Nat.ble 5 (List.length (Array.toList (Value.cells (at_ (elems (at_ (tupOf v70) 0)) 0))))))
 Prog.fail
 (((Nat.ble 1 (List.length (elems (at_ (tupOf v70) 0)))) && Bool.true) && (hdOk 8 (elems (at_ (tupOf v70) 0)))))
 (Prog.ret (Value.bool Bool.false))
 (beqB (Array.toList (ByteArray.data (strOf (List.headD (List.drop 3 (Array.toList (Value.cells (at_ (elems (at_ (tupOf v70) 0)) 0)))) (Value.tuple ⟨[]⟩))))) (Array.toList (ByteArray.data (strOf (at_ (tupOf v68) 0))))))
 Prog.fail
 (okK Kd.str (List.headD (List.drop 3 (Array.toList (Value.cells (at_ (elems (at_ (tupOf v70) 0)) 0)))) (Value.tuple ⟨[]⟩))))
 Prog.fail
 (Nat.ble 1 (List.length (List.drop 3 (Array.toList (Value.cells (at_ (elems (at_ (tupOf v70) 0)) 0)))))))
 Prog.fail
 (Nat.ble 4 (List.length (Array.toList (Value.cells (at_ (elems (at_ (tupOf v70) 0)) 0))))))
 Prog.fail
 (((Nat.ble 1 (List.length (elems (at_ (tupOf v70) 0)))) && Bool.true) && (hdOk 8 (elems (at_ (tupOf v70) 0)))))
 (Prog.ret (Value.bool Bool.false))
 (decide ((intOf (List.headD (Array.toList (Value.cells (at_ (elems (at_ (tupOf v70) 0)) 0))) (Value.tuple ⟨[]⟩))) = (1 : Int))))
 Prog.fail
 (okK (Kd.int IntKind.i64) (List.headD (Array.toList (Value.cells (at_ (elems (at_ (tupOf v70) 0)) 0))) (Value.tuple ⟨[]⟩))))
 Prog.fail
 (Nat.ble 1 (List.length (Array.toList (Value.cells (at_ (elems (at_ (tupOf v70) 0)) 0))))))
 Prog.fail
 (Nat.ble 1 (List.length (Array.toList (Value.cells (at_ (elems (at_ (tupOf v70) 0)) 0))))))
 Prog.fail
 (((Nat.ble 1 (List.length (elems (at_ (tupOf v70) 0)))) && Bool.true) && (hdOk 8 (elems (at_ (tupOf v70) 0)))))
 (Prog.ret (Value.bool Bool.false))
 (decide ((intOf v73) = (1 : Int))))
 Prog.fail
 (okK (Kd.int IntKind.i64) v73))))
 (Prog.ret (Value.bool Bool.false))
 (decide ((intOf v71) = (0 : Int))))
 Prog.fail
 (okK (Kd.int IntKind.i64) v71)))
 Prog.fail
 ((isTupV v70) && (okNs ((Nm.one Kd.lst) :: ((Nm.one (Kd.int IntKind.i64)) :: ((Nm.one (Kd.int IntKind.i64)) :: []))) (tupOf v70)))))
 (Bool.not (decide ((intOf (at_ (tupOf v68) 1)) = (0 : Int)))))
 Prog.fail
 ((isTupV v68) && (okNs ((Nm.one Kd.str) :: ((Nm.one (Kd.int IntKind.i64)) :: [])) (tupOf v68)))))
 Prog.fail
 ((isAggV v67) && (okKs ((Kd.int IntKind.i64) :: (Kd.lst :: (Kd.lst :: (Kd.lst :: [])))) (aggOf v67)))))
 (loadT En 32 (blkOf v49) (offOf v49)))
 (decide ((intOf v65) = (1 : Int))))
 Prog.fail
 (okK (Kd.int IntKind.i64) v65)))
 Prog.fail
 ((isAggV v64) && (okKs ((Kd.int IntKind.i64) :: (Kd.lst :: (Kd.lst :: (Kd.lst :: [])))) (aggOf v64)))))
 (loadT En 32 (blkOf v49) (offOf v49)))
 (Bool.not (boolOf v62)))
 Prog.fail
 (okK Kd.bool v62)))
 Prog.fail
 ((isAggV v61) && (okKs ((Kd.int IntKind.i64) :: (Kd.lst :: (Kd.lst :: (Kd.lst :: [])))) (aggOf v61)))))
 (loadT En 32 (blkOf v49) (offOf v49)))
 (callP (fun v81 =>
 (cnd
 (Prog.call (callF En (runP En f) 17 [(Value.agg ⟨((Value.int IntKind.i64 (intOf (at_ (aggOf v81) 0))) :: ((lstV (elems (at_ (aggOf v81) 1))) :: ((lstV (elems (at_ (aggOf v81) 2))) :: ((lstV (elems (at_ (aggOf v81) 3))) :: []))))⟩)]) fun v82 =>
 (cnd
 (cnd
 (Prog.call (callF En (runP En f) 10 []) fun v83 =>
 (cnd
 (Prog.ret (Value.bool (boolOf v83)))
 Prog.fail
 (okK Kd.bool v83)))
 (Prog.call (callF En (runP En f) 11 [(Value.string (strOf (at_ (tupOf v82) 0)))]) fun v84 =>
 (cnd
 (Prog.seg (callF En (runP En f) 12 [(Value.int IntKind.i64 (intOf (at_ (tupOf v84) 1)))]) fun v85 s86 _ =>
 (cnd
 (cnd
 (Prog.seg (builtinA En Builtin.len (23 :: []) ((lstV (elems (at_ (tupOf v84) 0))) :: [])) fun v87 s88 _ =>
 (gdL 31 (writesOf s88) s88 [⟨1, writesOf s86, s86⟩]
 (cnd
 (cnd
 (cnd
 (cnd
 (cnd
 (cnd
 (cnd
 (cnd
 (cnd
 (cnd
 (cnd
 (cnd
 (cnd
 (cnd
 (cnd
 (cnd
 (Prog.seg (loadT En 32 (blkOf v49) (offOf v49)) fun v89 s90 _ =>
 (gdL 16777215 (writesOf s90) s90 [⟨5, writesOf s88, s88⟩, ⟨1, writesOf s86, s86⟩]
 (cnd
 (Prog.seg (callF En (runP En f) 18 [(Value.agg ⟨((Value.int IntKind.i64 (intOf (at_ (List.take 4 (List.drop 4 (Array.toList (Value.cells (at_ (elems (at_ (tupOf v84) 0)) 0))))) 0))) :: ((lstV (elems (at_ (List.take 4 (List.drop 4 (Array.toList (Value.cells (at_ (elems (at_ (tupOf v84) 0)) 0))))) 1))) :: ((lstV (elems (at_ (List.take 4 (List.drop 4 (Array.toList (Value.cells (at_ (elems (at_ (tupOf v84) 0)) 0))))) 2))) :: ((lstV (elems (at_ (List.take 4 (List.drop 4 (Array.toList (Value.cells (at_ (elems (at_ (tupOf v84) 0)) 0))))) 3))) :: []))))⟩), (Value.agg ⟨((Value.int IntKind.i64 (intOf (at_ (aggOf v89) 0))) :: ((lstV (elems (at_ (aggOf v89) 1))) :: ((lstV (elems (at_ (aggOf v89) 2))) :: ((lstV (elems (at_ (aggOf v89) 3))) :: []))))⟩)]) fun v91 s92 _ =>
 (gdL 536870911 (writesOf s92) s92 [⟨28, writesOf s90, s90⟩, ⟨5, writesOf s88, s88⟩, ⟨1, writesOf s86, s86⟩]
 (cnd
 (cnd
 (Prog.seg (callF En (runP En f) 10 []) fun v93 s94 _ =>
 (gdL 4294967295 (writesOf s94) s94 [⟨29, writesOf s92, s92⟩, ⟨28, writesOf s90, s90⟩, ⟨5, writesOf s88, s88⟩, ⟨1, writesOf s86, s86⟩]
 (cnd
 (Prog.ret (Value.bool (boolOf v93)))
 Prog.fail
 (okK Kd.bool v93))))
 (Prog.ret (Value.bool Bool.false))
 (boolOf v91))
 Prog.fail
 (okK Kd.bool v91))))
 Prog.fail
 ((isAggV v89) && (okKs ((Kd.int IntKind.i64) :: (Kd.lst :: (Kd.lst :: (Kd.lst :: [])))) (aggOf v89))))))
 Prog.fail
 (okKs ((Kd.int IntKind.i64) :: (Kd.lst :: (Kd.lst :: (Kd.lst :: [])))) (List.take 4 (List.drop 4 (Array.toList (Value.cells (at_ (elems (at_ (tupOf v84) 0)) 0)))))))
 Prog.fail
 (Nat.ble 4 (List.length (List.drop 4 (Array.toList (Value.cells (at_ (elems (at_ (tupOf v84) 0)) 0)))))))
 Prog.fail
 (Nat.ble 5 (List.length (Array.toList (Value.cells (at_ (elems (at_ (tupOf v84) 0)) 0))))))
 Prog.fail
 (((Nat.ble 1 (List.length (elems (at_ (tupOf v84) 0)))) && Bool.true) && (hdOk 8 (elems (at_ (tupOf v84) 0)))))
 (Prog.ret (Value.bool Bool.false))
 (beqB (Array.toList (ByteArray.data (strOf (List.headD (List.drop 3 (Array.toList (Value.cells (at_ (elems (at_ (tupOf v84) 0)) 0)))) (Value.tuple ⟨[]⟩))))) (Array.toList (ByteArray.data (strOf (at_ (tupOf v82) 0))))))
 Prog.fail
 (okK Kd.str (List.headD (List.drop 3 (Array.toList (Value.cells (at_ (elems (at_ (tupOf v84) 0)) 0)))) (Value.tuple ⟨[]⟩))))
 Prog.fail
 (Nat.ble 1 (List.length (List.drop 3 (Array.toList (Value.cells (at_ (elems (at_ (tupOf v84) 0)) 0)))))))
 Prog.fail
 (Nat.ble 4 (List.length (Array.toList (Value.cells (at_ (elems (at_ (tupOf v84) 0)) 0))))))
 Prog.fail
 (((Nat.ble 1 (List.length (elems (at_ (tupOf v84) 0)))) && Bool.true) && (hdOk 8 (elems (at_ (tupOf v84) 0)))))
 (Prog.ret (Value.bool Bool.false))
 (decide ((intOf (List.headD (Array.toList (Value.cells (at_ (elems (at_ (tupOf v84) 0)) 0))) (Value.tuple ⟨[]⟩))) = (1 : Int))))
 Prog.fail
 (okK (Kd.int IntKind.i64) (List.headD (Array.toList (Value.cells (at_ (elems (at_ (tupOf v84) 0)) 0))) (Value.tuple ⟨[]⟩))))
 Prog.fail
 (Nat.ble 1 (List.length (Array.toList (Value.cells (at_ (elems (at_ (tupOf v84) 0)) 0))))))
 Prog.fail
 (Nat.ble 1 (List.length (Array.toList (Value.cells (at_ (elems (at_ (tupOf v84) 0)) 0))))))
 Prog.fail
 (((Nat.ble 1 (List.length (elems (at_ (tupOf v84) 0)))) && Bool.true) && (hdOk 8 (elems (at_ (tupOf v84) 0)))))
 (Prog.ret (Value.bool Bool.false))
 (decide ((intOf v87) = (1 : Int))))
 Prog.fail
 (okK (Kd.int IntKind.i64) v87))))
 (Prog.ret (Value.bool Bool.false))
 (decide ((intOf v85) = (0 : Int))))
 Prog.fail
 (okK (Kd.int IntKind.i64) v85)))
 Prog.fail
 ((isTupV v84) && (okNs ((Nm.one Kd.lst) :: ((Nm.one (Kd.int IntKind.i64)) :: ((Nm.one (Kd.int IntKind.i64)) :: []))) (tupOf v84)))))
 (Bool.not (decide ((intOf (at_ (tupOf v82) 1)) = (0 : Int)))))
 Prog.fail
 ((isTupV v82) && (okNs ((Nm.one Kd.str) :: ((Nm.one (Kd.int IntKind.i64)) :: [])) (tupOf v82)))))
 Prog.fail
 ((isAggV v81) && (okKs ((Kd.int IntKind.i64) :: (Kd.lst :: (Kd.lst :: (Kd.lst :: [])))) (aggOf v81)))))
 (loadT En 32 (blkOf v49) (offOf v49)))
 (Bool.not (boolOf v60)))
 Prog.fail
 (okK Kd.bool v60)))
 Prog.fail
 ((isAggV v59) && (okKs ((Kd.int IntKind.i64) :: (Kd.lst :: (Kd.lst :: (Kd.lst :: [])))) (aggOf v59)))))
 (loadT En 32 (blkOf v49) (offOf v49)))
 (Bool.not (decide ((intOf v57) = (0 : Int)))))
 Prog.fail
 (okK (Kd.int IntKind.i64) v57)))
 Prog.fail
 ((isAggV v56) && (okKs ((Kd.int IntKind.i64) :: (Kd.lst :: (Kd.lst :: (Kd.lst :: [])))) (aggOf v56)))))
 (loadT En 32 (blkOf v49) (offOf v49)))
 (decide ((Int.ofNat (List.length (elems v54))) > (0 : Int))))
 Prog.fail
 (isLst v54)))
 (loadT En 30 (blkOf v49) ((offOf v49) + 3)))
 (decide ((Int.ofNat (List.length (elems v52))) > (20000 : Int))))
 Prog.fail
 (isLst v52)))
 (loadT En 29 (blkOf v49) ((offOf v49) + 2)))
 (decide ((Int.ofNat (List.length (elems v50))) > (20000 : Int))))
 Prog.fail
 (isLst v50)))
 (loadT En 28 (blkOf v49) ((offOf v49) + 1)))
 Prog.fail
 (isPt v49)))
 (Prog.newH (Hdr.mk 4 32 Bool.false Bool.true Bool.true 0 Bool.false Bool.false []) ((Value.int IntKind.i64 x0_0) :: ((lstV x0_1) :: ((lstV x0_2) :: ((lstV x0_3) :: [])))) (fun z48 => (Prog.ret (itP z48)))))) := by kernel_rfl
end Go.Proofs.YtmjbmbmnnephjaaGreatDoor
/- What comes of the points of a function: printed by the tool. -/
namespace Go.Proofs.YtmjbmbmnnephjaaGreatDoor
open Go Go.Ev Go.Proofs
set_option maxRecDepth 8000
set_option linter.unusedVariables false
noncomputable def p11_4 (f : Nat) (x0 : ByteArray) (x5 : Nat) (x5o : Nat) : Prog := runP En f 11 (tmL 76 [(0, (Value.string x0)), (5, (Value.pointer (Option.some (Addr.mk x5 x5o Option.none))))]) [.code (cL (cL (cI (cI (cL (cR (cR (cR (cB 11))))))))), .code (cR (cL (cI (cI (cL (cR (cR (cR (cB 11))))))))), .code (cR (cI (cI (cL (cR (cR (cR (cB 11)))))))), .inLoop (cI (cI (cL (cR (cR (cR (cB 11))))))), .inBlock 0, .code (cR (cR (cR (cR (cB 11)))))] [] none
theorem p11_4_eq (f : Nat) (x0 : ByteArray) (x5 : Nat) (x5o : Nat) : p11_4 (f + 1) x0 x5 x5o =
 (callP (fun v3 =>
 (cnd
 (cnd
 (Prog.seg (loadT En 3 x5 ((x5o + 0) + 1)) fun v4 s5 _ =>
 (cnd
 (Prog.seg (callF En (runP En f) 32 [(Value.pointer (Option.some (Addr.mk x5 (x5o + 0) Option.none))), (Value.func (Fn.func 33) ⟨[]⟩ ⟨[]⟩)]) fun v6 s7 _ =>
 (gdL 224 (writesOf s7) s7 [⟨4, writesOf s5, s5⟩]
 (cnd
 (Prog.seg (storeT En 3 x5 ((x5o + 0) + 1) (Value.int IntKind.i64 (IntKind.wrap IntKind.i64 ((intOf v4) + (Int.ofNat (List.length (Array.toList (ByteArray.data (strOf v6))))))))) fun v8 s9 _ =>
 (gdL 16383 (writesOf s9) s9 [⟨8, writesOf s7, s7⟩, ⟨4, writesOf s5, s5⟩]
 (callP (fun v10 =>
 (cnd
 (cnd
 (callP (fun v11 =>
 (frzL En 20 34 v11 fun v12 =>
 (Prog.ret (Value.tuple ⟨(v12 :: ((Value.int IntKind.i64 (0 : Int)) :: ((Value.int IntKind.i64 (0 : Int)) :: [])))⟩))))
 (loadT En 23 x5 (x5o + 2)))
 (callP (fun v13 =>
 (cnd
 (Prog.call (callF En (runP En f) 34 [(Value.pointer (Option.some (Addr.mk x5 x5o Option.none)))]) fun v14 =>
 (cnd
 (callP (fun v15 =>
 (cnd
 (cnd
 (callP (fun v16 =>
 (callP (fun v17 =>
 (cnd
 (cnd
 (Prog.call (callF En (runP En f) 35 [(Value.pointer (Option.some (Addr.mk x5 x5o Option.none))), (Value.int IntKind.i64 (6 : Int)), (Value.int IntKind.i64 (intOf v13))]) fun v18 =>
 (cnd
 (p11_4 f x0 x5 x5o)
 Prog.fail
 ((isTupV v18) && (okNs [] (tupOf v18)))))
 (p11_4 f x0 x5 x5o)
 (decide ((intOf v17) > (16384 : Int))))
 Prog.fail
 (okK (Kd.int IntKind.i64) v17)))
 (builtinA En Builtin.len (23 :: []) (v16 :: []))))
 (loadT En 23 x5 (x5o + 2)))
 (p11_4 f x0 x5 x5o)
 (decide ((intOf v15) = (0 : Int))))
 Prog.fail
 (okK (Kd.int IntKind.i64) v15)))
 (loadT En 24 x5 (x5o + 3)))
 Prog.fail
 ((isTupV v14) && (okNs [] (tupOf v14)))))
 Prog.fail
 (okK (Kd.int IntKind.i64) v13)))
 (loadT En 3 x5 ((x5o + 0) + 1)))
 (decide ((intOf v10) = (Int.ofNat (List.length (Array.toList (ByteArray.data x0)))))))
 Prog.fail
 (okK (Kd.int IntKind.i64) v10)))
 (loadT En 3 x5 ((x5o + 0) + 1)))))
 Prog.fail
 (okK Kd.str v6))))
 Prog.fail
 (okK (Kd.int IntKind.i64) v4)))
 (Prog.seg (loadT En 24 x5 (x5o + 3)) fun v19 s20 _ =>
 (cnd
 (Prog.seg (loadT En 3 x5 (x5o + 4)) fun v21 s22 _ =>
 (gdL 112 (writesOf s22) s22 [⟨3, writesOf s20, s20⟩]
 (cnd
 (Prog.ret (Value.tuple ⟨((lstV []) :: ((Value.int IntKind.i64 (intOf v19)) :: ((Value.int IntKind.i64 (intOf v21)) :: [])))⟩))
 Prog.fail
 (okK (Kd.int IntKind.i64) v21))))
 Prog.fail
 (okK (Kd.int IntKind.i64) v19)))
 (decide ((intOf v3) = (0 : Int))))
 Prog.fail
 (okK (Kd.int IntKind.i64) v3)))
 (loadT En 24 x5 (x5o + 3))) := by kernel_rfl
theorem f11_eq (f : Nat) (x0 : ByteArray) : callF En (runP En (f + 1)) 11 [(Value.string x0)] =
 (cnd
 (Prog.ret (Value.tuple ⟨((lstV []) :: ((Value.int IntKind.i64 (1 : Int)) :: ((Value.int IntKind.i64 (0 : Int)) :: [])))⟩))
 (gd Bool.true
 (gd Bool.true
 (gd Bool.true
 (callP (fun v24 =>
 (cnd
 (p11_4 f x0 (blkOf v24) (offOf v24))
 Prog.fail
 (isPt v24)))
 (Prog.newH (Hdr.mk 5 60 Bool.false Bool.true Bool.true 0 Bool.false Bool.false []) ((Value.string x0) :: ((Value.int IntKind.i64 (0 : Int)) :: ((Value.slice Option.none 0 0) :: ((Value.int IntKind.i64 (0 : Int)) :: ((Value.int IntKind.i64 (0 : Int)) :: []))))) (fun z23 => (Prog.ret (itP z23))))))))
 (decide ((Int.ofNat (List.length (Array.toList (ByteArray.data x0)))) > (65536 : Int)))) := by kernel_rfl
end Go.Proofs.YtmjbmbmnnephjaaGreatDoor
/- What comes of the points of a function: printed by the tool. -/
namespace Go.Proofs.YtmjbmbmnnephjaaGreatDoor
open Go Go.Ev Go.Proofs
set_option maxRecDepth 8000
set_option linter.unusedVariables false
theorem f12_eq (f : Nat) (x0 : Int) : callF En (runP En (f + 1)) 12 [(Value.int IntKind.i64 x0)] =
 (Prog.ret (Value.int IntKind.i64 x0)) := by kernel_rfl
end Go.Proofs.YtmjbmbmnnephjaaGreatDoor
/- What comes of the points of a function: printed by the tool. -/
namespace Go.Proofs.YtmjbmbmnnephjaaGreatDoor
open Go Go.Ev Go.Proofs
set_option maxRecDepth 8000
set_option linter.unusedVariables false
theorem f13_eq (f : Nat) (x0_0 : Int) (x0_1 : List Value) (x0_2 : List Value) (x0_3 : List Value) : callF En (runP En (f + 1)) 13 [(Value.agg ⟨((Value.int IntKind.i64 x0_0) :: ((lstV x0_1) :: ((lstV x0_2) :: ((lstV x0_3) :: []))))⟩)] =
 (gd Bool.true
 (callP (fun v8 =>
 (cnd
 (callP (fun v9 =>
 (cnd
 (Prog.call (callF En (runP En f) 36 [(Value.agg ⟨((Value.int IntKind.i64 (intOf (at_ (aggOf v9) 0))) :: ((lstV (elems (at_ (aggOf v9) 1))) :: ((lstV (elems (at_ (aggOf v9) 2))) :: ((lstV (elems (at_ (aggOf v9) 3))) :: []))))⟩), (Value.int IntKind.i64 (1048576 : Int))]) fun v10 =>
 (cnd
 (cnd
 (callP (fun v11 =>
 (cnd
 (Prog.call (callF En (runP En f) 37 [(Value.agg ⟨((Value.int IntKind.i64 (intOf (at_ (aggOf v11) 0))) :: ((lstV (elems (at_ (aggOf v11) 1))) :: ((lstV (elems (at_ (aggOf v11) 2))) :: ((lstV (elems (at_ (aggOf v11) 3))) :: []))))⟩)]) fun v12 =>
 (cnd
 (cnd
 (Prog.ret (Value.int IntKind.i64 (6 : Int)))
 (Prog.ret (Value.int IntKind.i64 (intOf v10)))
 (decide ((intOf v12) > (32 : Int))))
 Prog.fail
 (okK (Kd.int IntKind.i64) v12)))
 Prog.fail
 ((isAggV v11) && (okKs ((Kd.int IntKind.i64) :: (Kd.lst :: (Kd.lst :: (Kd.lst :: [])))) (aggOf v11)))))
 (loadT En 32 (blkOf v8) (offOf v8)))
 (Prog.ret (Value.int IntKind.i64 (intOf v10)))
 (decide ((intOf v10) = (0 : Int))))
 Prog.fail
 (okK (Kd.int IntKind.i64) v10)))
 Prog.fail
 ((isAggV v9) && (okKs ((Kd.int IntKind.i64) :: (Kd.lst :: (Kd.lst :: (Kd.lst :: [])))) (aggOf v9)))))
 (loadT En 32 (blkOf v8) (offOf v8)))
 Prog.fail
 (isPt v8)))
 (Prog.newH (Hdr.mk 4 32 Bool.false Bool.true Bool.true 0 Bool.false Bool.false []) ((Value.int IntKind.i64 x0_0) :: ((lstV x0_1) :: ((lstV x0_2) :: ((lstV x0_3) :: [])))) (fun z7 => (Prog.ret (itP z7)))))) := by kernel_rfl
end Go.Proofs.YtmjbmbmnnephjaaGreatDoor
/- What comes of the points of a function: printed by the tool. -/
namespace Go.Proofs.YtmjbmbmnnephjaaGreatDoor
open Go Go.Ev Go.Proofs
set_option maxRecDepth 8000
set_option linter.unusedVariables false
theorem f14_eq (f : Nat) (x0_0 : Int) (x0_1 : List Value) (x0_2 : List Value) (x0_3 : List Value) : callF En (runP En (f + 1)) 14 [(Value.agg ⟨((Value.int IntKind.i64 x0_0) :: ((lstV x0_1) :: ((lstV x0_2) :: ((lstV x0_3) :: []))))⟩)] =
 (gd Bool.true
 (callP (fun v6 =>
 (cnd
 (callP (fun v7 =>
 (cnd
 (cnd
 (callP (fun v8 =>
 (cnd
 (Prog.ret (Value.bool (decide ((intOf v8) ≥ (-5 : Int)))))
 Prog.fail
 (okK (Kd.int IntKind.i64) v8)))
 (loadT En 3 (blkOf v6) ((offOf v6) + 0)))
 (Prog.ret (Value.bool Bool.false))
 (decide ((intOf v7) < (0 : Int))))
 Prog.fail
 (okK (Kd.int IntKind.i64) v7)))
 (loadT En 3 (blkOf v6) ((offOf v6) + 0)))
 Prog.fail
 (isPt v6)))
 (Prog.newH (Hdr.mk 4 32 Bool.false Bool.true Bool.true 0 Bool.false Bool.false []) ((Value.int IntKind.i64 x0_0) :: ((lstV x0_1) :: ((lstV x0_2) :: ((lstV x0_3) :: [])))) (fun z5 => (Prog.ret (itP z5)))))) := by kernel_rfl
end Go.Proofs.YtmjbmbmnnephjaaGreatDoor
/- What comes of the points of a function: printed by the tool. -/
namespace Go.Proofs.YtmjbmbmnnephjaaGreatDoor
open Go Go.Ev Go.Proofs
set_option maxRecDepth 8000
set_option linter.unusedVariables false
theorem f15_eq (f : Nat) (x0_0 : Int) (x0_1 : List Value) (x0_2 : List Value) (x0_3 : List Value) : callF En (runP En (f + 1)) 15 [(Value.agg ⟨((Value.int IntKind.i64 x0_0) :: ((lstV x0_1) :: ((lstV x0_2) :: ((lstV x0_3) :: []))))⟩)] =
 (gd Bool.true
 (callP (fun v6 =>
 (cnd
 (callP (fun v7 =>
 (cnd
 (cnd
 (callP (fun v8 =>
 (cnd
 (Prog.ret (Value.bool (decide ((intOf v8) ≤ (5 : Int)))))
 Prog.fail
 (okK (Kd.int IntKind.i64) v8)))
 (loadT En 3 (blkOf v6) ((offOf v6) + 0)))
 (Prog.ret (Value.bool Bool.false))
 (decide ((intOf v7) ≥ (1 : Int))))
 Prog.fail
 (okK (Kd.int IntKind.i64) v7)))
 (loadT En 3 (blkOf v6) ((offOf v6) + 0)))
 Prog.fail
 (isPt v6)))
 (Prog.newH (Hdr.mk 4 32 Bool.false Bool.true Bool.true 0 Bool.false Bool.false []) ((Value.int IntKind.i64 x0_0) :: ((lstV x0_1) :: ((lstV x0_2) :: ((lstV x0_3) :: [])))) (fun z5 => (Prog.ret (itP z5)))))) := by kernel_rfl
end Go.Proofs.YtmjbmbmnnephjaaGreatDoor
/- What comes of the points of a function: printed by the tool. -/
namespace Go.Proofs.YtmjbmbmnnephjaaGreatDoor
open Go Go.Ev Go.Proofs
set_option maxRecDepth 8000
set_option linter.unusedVariables false
theorem f16_eq (f : Nat) (x0_0 : Int) (x0_1 : List Value) (x0_2 : List Value) (x0_3 : List Value) : callF En (runP En (f + 1)) 16 [(Value.agg ⟨((Value.int IntKind.i64 x0_0) :: ((lstV x0_1) :: ((lstV x0_2) :: ((lstV x0_3) :: []))))⟩)] =
 (gd Bool.true
 (callP (fun v19 =>
 (cnd
 (callP (fun v20 =>
 (cnd
 (cnd
 (callP (fun v21 =>
 (cnd
 (Prog.ret (Value.int IntKind.i64 (Int.ofNat (List.length (elems v21)))))
 Prog.fail
 (isLst v21)))
 (loadT En 29 (blkOf v19) ((offOf v19) + 2)))
 (callP (fun v22 =>
 (cnd
 (Prog.call (callF En (runP En f) 15 [(Value.agg ⟨((Value.int IntKind.i64 (intOf (at_ (aggOf v22) 0))) :: ((lstV (elems (at_ (aggOf v22) 1))) :: ((lstV (elems (at_ (aggOf v22) 2))) :: ((lstV (elems (at_ (aggOf v22) 3))) :: []))))⟩)]) fun v23 =>
 (cnd
 (cnd
 (callP (fun v24 =>
 (cnd
 (Prog.ret (Value.int IntKind.i64 (Int.ofNat (List.length (elems v24)))))
 Prog.fail
 (isLst v24)))
 (loadT En 28 (blkOf v19) ((offOf v19) + 1)))
 (callP (fun v25 =>
 (cnd
 (cnd
 (callP (fun v26 =>
 (cnd
 (Prog.ret (Value.int IntKind.i64 (Int.ofNat (List.length (elems v26)))))
 Prog.fail
 (isLst v26)))
 (loadT En 30 (blkOf v19) ((offOf v19) + 3)))
 (callP (fun v27 =>
 (cnd
 (cnd
 (callP (fun v28 =>
 (cnd
 (cnd
 (callP (fun v29 =>
 (cnd
 (cnd
 (cnd
 (cnd
 (Prog.call (callF En (runP En f) 16 [(Value.agg ⟨((Value.int IntKind.i64 (intOf (at_ (List.take 4 (Array.toList (Value.cells (at_ (elems v29) 0)))) 0))) :: ((lstV (elems (at_ (List.take 4 (Array.toList (Value.cells (at_ (elems v29) 0)))) 1))) :: ((lstV (elems (at_ (List.take 4 (Array.toList (Value.cells (at_ (elems v29) 0)))) 2))) :: ((lstV (elems (at_ (List.take 4 (Array.toList (Value.cells (at_ (elems v29) 0)))) 3))) :: []))))⟩)]) fun v30 =>
 (cnd
 (Prog.ret (Value.int IntKind.i64 (intOf v30)))
 Prog.fail
 (okK (Kd.int IntKind.i64) v30)))
 Prog.fail
 (okKs ((Kd.int IntKind.i64) :: (Kd.lst :: (Kd.lst :: (Kd.lst :: [])))) (List.take 4 (Array.toList (Value.cells (at_ (elems v29) 0))))))
 Prog.fail
 (Nat.ble 4 (List.length (Array.toList (Value.cells (at_ (elems v29) 0))))))
 Prog.fail
 (((Nat.ble 1 (List.length (elems v29))) && Bool.true) && (hdOk 4 (elems v29))))
 Prog.fail
 (isLst v29)))
 (loadT En 30 (blkOf v19) ((offOf v19) + 3)))
 (Prog.ret (Value.int IntKind.i64 (1 : Int)))
 (decide ((Int.ofNat (List.length (elems v28))) > (0 : Int))))
 Prog.fail
 (isLst v28)))
 (loadT En 30 (blkOf v19) ((offOf v19) + 3)))
 (callP (fun v31 =>
 (cnd
 (cnd
 (callP (fun v32 =>
 (cnd
 (cnd
 (callP (fun v33 =>
 (cnd
 (cnd
 (cnd
 (cnd
 (Prog.call (callF En (runP En f) 16 [(Value.agg ⟨((Value.int IntKind.i64 (intOf (at_ (List.take 4 (Array.toList (Value.cells (at_ (elems v33) 0)))) 0))) :: ((lstV (elems (at_ (List.take 4 (Array.toList (Value.cells (at_ (elems v33) 0)))) 1))) :: ((lstV (elems (at_ (List.take 4 (Array.toList (Value.cells (at_ (elems v33) 0)))) 2))) :: ((lstV (elems (at_ (List.take 4 (Array.toList (Value.cells (at_ (elems v33) 0)))) 3))) :: []))))⟩)]) fun v34 =>
 (cnd
 (Prog.ret (Value.int IntKind.i64 (intOf v34)))
 Prog.fail
 (okK (Kd.int IntKind.i64) v34)))
 Prog.fail
 (okKs ((Kd.int IntKind.i64) :: (Kd.lst :: (Kd.lst :: (Kd.lst :: [])))) (List.take 4 (Array.toList (Value.cells (at_ (elems v33) 0))))))
 Prog.fail
 (Nat.ble 4 (List.length (Array.toList (Value.cells (at_ (elems v33) 0))))))
 Prog.fail
 (((Nat.ble 1 (List.length (elems v33))) && Bool.true) && (hdOk 4 (elems v33))))
 Prog.fail
 (isLst v33)))
 (loadT En 30 (blkOf v19) ((offOf v19) + 3)))
 (Prog.ret (Value.int IntKind.i64 (1 : Int)))
 (decide ((Int.ofNat (List.length (elems v32))) > (0 : Int))))
 Prog.fail
 (isLst v32)))
 (loadT En 30 (blkOf v19) ((offOf v19) + 3)))
 (Prog.ret (Value.int IntKind.i64 (1 : Int)))
 (decide ((intOf v31) = (99 : Int))))
 Prog.fail
 (okK (Kd.int IntKind.i64) v31)))
 (loadT En 3 (blkOf v19) ((offOf v19) + 0)))
 (decide ((intOf v27) = (98 : Int))))
 Prog.fail
 (okK (Kd.int IntKind.i64) v27)))
 (loadT En 3 (blkOf v19) ((offOf v19) + 0)))
 (decide ((intOf v25) = (0 : Int))))
 Prog.fail
 (okK (Kd.int IntKind.i64) v25)))
 (loadT En 3 (blkOf v19) ((offOf v19) + 0)))
 (boolOf v23))
 Prog.fail
 (okK Kd.bool v23)))
 Prog.fail
 ((isAggV v22) && (okKs ((Kd.int IntKind.i64) :: (Kd.lst :: (Kd.lst :: (Kd.lst :: [])))) (aggOf v22)))))
 (loadT En 32 (blkOf v19) (offOf v19)))
 (decide ((intOf v20) = (3 : Int))))
 Prog.fail
 (okK (Kd.int IntKind.i64) v20)))
 (loadT En 3 (blkOf v19) ((offOf v19) + 0)))
 Prog.fail
 (isPt v19)))
 (Prog.newH (Hdr.mk 4 32 Bool.false Bool.true Bool.true 0 Bool.false Bool.false []) ((Value.int IntKind.i64 x0_0) :: ((lstV x0_1) :: ((lstV x0_2) :: ((lstV x0_3) :: [])))) (fun z18 => (Prog.ret (itP z18)))))) := by kernel_rfl
end Go.Proofs.YtmjbmbmnnephjaaGreatDoor
/- What comes of the points of a function: printed by the tool. -/
namespace Go.Proofs.YtmjbmbmnnephjaaGreatDoor
open Go Go.Ev Go.Proofs
set_option maxRecDepth 8000
set_option linter.unusedVariables false
theorem f17_eq (f : Nat) (x0_0 : Int) (x0_1 : List Value) (x0_2 : List Value) (x0_3 : List Value) : callF En (runP En (f + 1)) 17 [(Value.agg ⟨((Value.int IntKind.i64 x0_0) :: ((lstV x0_1) :: ((lstV x0_2) :: ((lstV x0_3) :: []))))⟩)] =
 (gd Bool.true
 (callP (fun v60 =>
 (cnd
 (callP (fun v61 =>
 (cnd
 (Prog.call (callF En (runP En f) 13 [(Value.agg ⟨((Value.int IntKind.i64 (intOf (at_ (aggOf v61) 0))) :: ((lstV (elems (at_ (aggOf v61) 1))) :: ((lstV (elems (at_ (aggOf v61) 2))) :: ((lstV (elems (at_ (aggOf v61) 3))) :: []))))⟩)]) fun v62 =>
 (cnd
 (cnd
 (Prog.ret (Value.tuple ⟨((Value.string (mkStr [])) :: ((Value.int IntKind.i64 (intOf v62)) :: []))⟩))
 (callP (fun v63 =>
 (cnd
 (Prog.call (callF En (runP En f) 38 [(Value.agg ⟨((Value.int IntKind.i64 (intOf (at_ (aggOf v63) 0))) :: ((lstV (elems (at_ (aggOf v63) 1))) :: ((lstV (elems (at_ (aggOf v63) 2))) :: ((lstV (elems (at_ (aggOf v63) 3))) :: []))))⟩)]) fun v64 =>
 (cnd
 (cnd
 (Prog.ret (Value.tuple ⟨((Value.string (mkStr [])) :: ((Value.int IntKind.i64 (40 : Int)) :: []))⟩))
 (callP (fun v65 =>
 (cnd
 (Prog.call (callF En (runP En f) 39 [(Value.slice Option.none 0 0), (Value.agg ⟨((Value.int IntKind.i64 (intOf (at_ (aggOf v65) 0))) :: ((lstV (elems (at_ (aggOf v65) 1))) :: ((lstV (elems (at_ (aggOf v65) 2))) :: ((lstV (elems (at_ (aggOf v65) 3))) :: []))))⟩)]) fun v66 =>
 (callP (fun v115 =>
 (callP (fun v116 =>
 (cnd
 (cnd
 (Prog.ret (Value.tuple ⟨((Value.string (mkStr [])) :: ((Value.int IntKind.i64 (1 : Int)) :: []))⟩))
 (Prog.ret (Value.tuple ⟨(v115 :: ((Value.int IntKind.i64 (0 : Int)) :: []))⟩))
 (decide ((intOf v116) > (65536 : Int))))
 Prog.fail
 (okK (Kd.int IntKind.i64) v116)))
 (builtinA En Builtin.len (9 :: []) (v115 :: []))))
 (convA En 65 9 v66)))
 Prog.fail
 ((isAggV v65) && (okKs ((Kd.int IntKind.i64) :: (Kd.lst :: (Kd.lst :: (Kd.lst :: [])))) (aggOf v65)))))
 (loadT En 32 (blkOf v60) (offOf v60)))
 (Bool.not (boolOf v64)))
 Prog.fail
 (okK Kd.bool v64)))
 Prog.fail
 ((isAggV v63) && (okKs ((Kd.int IntKind.i64) :: (Kd.lst :: (Kd.lst :: (Kd.lst :: [])))) (aggOf v63)))))
 (loadT En 32 (blkOf v60) (offOf v60)))
 (Bool.not (decide ((intOf v62) = (0 : Int)))))
 Prog.fail
 (okK (Kd.int IntKind.i64) v62)))
 Prog.fail
 ((isAggV v61) && (okKs ((Kd.int IntKind.i64) :: (Kd.lst :: (Kd.lst :: (Kd.lst :: [])))) (aggOf v61)))))
 (loadT En 32 (blkOf v60) (offOf v60)))
 Prog.fail
 (isPt v60)))
 (Prog.newH (Hdr.mk 4 32 Bool.false Bool.true Bool.true 0 Bool.false Bool.false []) ((Value.int IntKind.i64 x0_0) :: ((lstV x0_1) :: ((lstV x0_2) :: ((lstV x0_3) :: [])))) (fun z59 => (Prog.ret (itP z59)))))) := by kernel_rfl
end Go.Proofs.YtmjbmbmnnephjaaGreatDoor
/- What comes of the points of a function: printed by the tool. -/
namespace Go.Proofs.YtmjbmbmnnephjaaGreatDoor
open Go Go.Ev Go.Proofs
set_option maxRecDepth 8000
set_option linter.unusedVariables false
noncomputable def p18_4 (f : Nat) (x2 : Nat) (x2o : Nat) (x3 : Nat) (x3o : Nat) (x5 : Int) : Prog := runP En f 18 (tmL 95 [(2, (Value.pointer (Option.some (Addr.mk x2 x2o Option.none)))), (3, (Value.pointer (Option.some (Addr.mk x3 x3o Option.none)))), (5, (Value.int IntKind.i64 x5))]) [.code (cL (cL (cI (cI (cR (cL (cR (cR (cB 18))))))))), .code (cR (cL (cI (cI (cR (cL (cR (cR (cB 18))))))))), .code (cR (cI (cI (cR (cL (cR (cR (cB 18)))))))), .inLoop (cI (cI (cR (cL (cR (cR (cB 18))))))), .inBlock 0, .code (cR (cR (cR (cB 18))))] [] none
noncomputable def p18_9 (f : Nat) (x2 : Nat) (x2o : Nat) (x3 : Nat) (x3o : Nat) (x6 : Int) : Prog := runP En f 18 (tmL 95 [(2, (Value.pointer (Option.some (Addr.mk x2 x2o Option.none)))), (3, (Value.pointer (Option.some (Addr.mk x3 x3o Option.none)))), (6, (Value.int IntKind.i64 x6))]) [.code (cL (cL (cI (cI (cR (cL (cR (cR (cR (cB 18)))))))))), .code (cR (cL (cI (cI (cR (cL (cR (cR (cR (cB 18)))))))))), .code (cR (cI (cI (cR (cL (cR (cR (cR (cB 18))))))))), .inLoop (cI (cI (cR (cL (cR (cR (cR (cB 18)))))))), .inBlock 2, .code (cR (cR (cR (cR (cB 18)))))] [] none
noncomputable def p18_14 (f : Nat) (x2 : Nat) (x2o : Nat) (x3 : Nat) (x3o : Nat) (x7 : Int) : Prog := runP En f 18 (tmL 95 [(2, (Value.pointer (Option.some (Addr.mk x2 x2o Option.none)))), (3, (Value.pointer (Option.some (Addr.mk x3 x3o Option.none)))), (7, (Value.int IntKind.i64 x7))]) [.code (cL (cL (cI (cI (cR (cL (cR (cR (cR (cR (cB 18))))))))))), .code (cR (cL (cI (cI (cR (cL (cR (cR (cR (cR (cB 18))))))))))), .code (cR (cI (cI (cR (cL (cR (cR (cR (cR (cB 18)))))))))), .inLoop (cI (cI (cR (cL (cR (cR (cR (cR (cB 18))))))))), .inBlock 4, .code (cR (cR (cR (cR (cR (cB 18))))))] [] none
theorem p18_4_eq (f : Nat) (x2 : Nat) (x2o : Nat) (x3 : Nat) (x3o : Nat) (x5 : Int) : p18_4 (f + 1) x2 x2o x3 x3o x5 =
 (callP (fun v30 =>
 (cnd
 (cnd
 (Prog.seg (loadT En 28 x2 (x2o + 1)) fun v31 s32 _ =>
 (cnd
 (cnd
 (cnd
 (cnd
 (cnd
 (Prog.seg (loadT En 28 x3 (x3o + 1)) fun v33 s34 _ =>
 (gdL 32 (writesOf s34) s34 [⟨1, writesOf s32, s32⟩]
 (cnd
 (cnd
 (cnd
 (cnd
 (cnd
 (cnd
 (Prog.ret (Value.bool Bool.false))
 (p18_4 f x2 x2o x3 x3o (IntKind.wrap IntKind.i64 (x5 + (1 : Int))))
 (Bool.not (decide ((intOf (List.headD (Array.toList (Value.cells (at_ (elems v31) (Int.toNat x5)))) (Value.tuple ⟨[]⟩))) = (intOf (List.headD (Array.toList (Value.cells (at_ (elems v33) (Int.toNat x5)))) (Value.tuple ⟨[]⟩)))))))
 Prog.fail
 (okK (Kd.int IntKind.i64) (List.headD (Array.toList (Value.cells (at_ (elems v33) (Int.toNat x5)))) (Value.tuple ⟨[]⟩))))
 Prog.fail
 (Nat.ble 1 (List.length (Array.toList (Value.cells (at_ (elems v33) (Int.toNat x5)))))))
 Prog.fail
 (((Nat.ble (Nat.succ (Int.toNat x5)) (List.length (elems v33))) && Bool.true) && (hdOk 1 (elems v33))))
 Prog.fail
 (decide ((0 : Int) ≤ x5)))
 Prog.fail
 (isLst v33))))
 Prog.fail
 (okK (Kd.int IntKind.i64) (List.headD (Array.toList (Value.cells (at_ (elems v31) (Int.toNat x5)))) (Value.tuple ⟨[]⟩))))
 Prog.fail
 (Nat.ble 1 (List.length (Array.toList (Value.cells (at_ (elems v31) (Int.toNat x5)))))))
 Prog.fail
 (((Nat.ble (Nat.succ (Int.toNat x5)) (List.length (elems v31))) && Bool.true) && (hdOk 1 (elems v31))))
 Prog.fail
 (decide ((0 : Int) ≤ x5)))
 Prog.fail
 (isLst v31)))
 (p18_9 f x2 x2o x3 x3o (0 : Int))
 (decide (x5 < (Int.ofNat (List.length (elems v30))))))
 Prog.fail
 (isLst v30)))
 (loadT En 28 x2 (x2o + 1))) := by kernel_rfl
theorem p18_9_eq (f : Nat) (x2 : Nat) (x2o : Nat) (x3 : Nat) (x3o : Nat) (x6 : Int) : p18_9 (f + 1) x2 x2o x3 x3o x6 =
 (callP (fun v35 =>
 (cnd
 (cnd
 (Prog.seg (loadT En 29 x2 (x2o + 2)) fun v36 s37 _ =>
 (cnd
 (cnd
 (cnd
 (cnd
 (cnd
 (Prog.seg (loadT En 29 x3 (x3o + 2)) fun v38 s39 _ =>
 (gdL 32 (writesOf s39) s39 [⟨1, writesOf s37, s37⟩]
 (cnd
 (cnd
 (cnd
 (cnd
 (cnd
 (cnd
 (Prog.ret (Value.bool Bool.false))
 (p18_9 f x2 x2o x3 x3o (IntKind.wrap IntKind.i64 (x6 + (1 : Int))))
 (Bool.not (beqB (Array.toList (ByteArray.data (strOf (List.headD (Array.toList (Value.cells (at_ (elems v36) (Int.toNat x6)))) (Value.tuple ⟨[]⟩))))) (Array.toList (ByteArray.data (strOf (List.headD (Array.toList (Value.cells (at_ (elems v38) (Int.toNat x6)))) (Value.tuple ⟨[]⟩))))))))
 Prog.fail
 (okK Kd.str (List.headD (Array.toList (Value.cells (at_ (elems v38) (Int.toNat x6)))) (Value.tuple ⟨[]⟩))))
 Prog.fail
 (Nat.ble 1 (List.length (Array.toList (Value.cells (at_ (elems v38) (Int.toNat x6)))))))
 Prog.fail
 (((Nat.ble (Nat.succ (Int.toNat x6)) (List.length (elems v38))) && Bool.true) && (hdOk 1 (elems v38))))
 Prog.fail
 (decide ((0 : Int) ≤ x6)))
 Prog.fail
 (isLst v38))))
 Prog.fail
 (okK Kd.str (List.headD (Array.toList (Value.cells (at_ (elems v36) (Int.toNat x6)))) (Value.tuple ⟨[]⟩))))
 Prog.fail
 (Nat.ble 1 (List.length (Array.toList (Value.cells (at_ (elems v36) (Int.toNat x6)))))))
 Prog.fail
 (((Nat.ble (Nat.succ (Int.toNat x6)) (List.length (elems v36))) && Bool.true) && (hdOk 1 (elems v36))))
 Prog.fail
 (decide ((0 : Int) ≤ x6)))
 Prog.fail
 (isLst v36)))
 (p18_14 f x2 x2o x3 x3o (0 : Int))
 (decide (x6 < (Int.ofNat (List.length (elems v35))))))
 Prog.fail
 (isLst v35)))
 (loadT En 29 x2 (x2o + 2))) := by kernel_rfl
theorem p18_14_eq (f : Nat) (x2 : Nat) (x2o : Nat) (x3 : Nat) (x3o : Nat) (x7 : Int) : p18_14 (f + 1) x2 x2o x3 x3o x7 =
 (callP (fun v40 =>
 (cnd
 (cnd
 (Prog.seg (loadT En 30 x2 (x2o + 3)) fun v41 s42 _ =>
 (cnd
 (cnd
 (cnd
 (cnd
 (cnd
 (Prog.seg (loadT En 30 x3 (x3o + 3)) fun v43 s44 _ =>
 (gdL 32 (writesOf s44) s44 [⟨1, writesOf s42, s42⟩]
 (cnd
 (cnd
 (cnd
 (cnd
 (cnd
 (Prog.seg (callF En (runP En f) 18 [(Value.agg ⟨((Value.int IntKind.i64 (intOf (at_ (List.take 4 (Array.toList (Value.cells (at_ (elems v41) (Int.toNat x7))))) 0))) :: ((lstV (elems (at_ (List.take 4 (Array.toList (Value.cells (at_ (elems v41) (Int.toNat x7))))) 1))) :: ((lstV (elems (at_ (List.take 4 (Array.toList (Value.cells (at_ (elems v41) (Int.toNat x7))))) 2))) :: ((lstV (elems (at_ (List.take 4 (Array.toList (Value.cells (at_ (elems v41) (Int.toNat x7))))) 3))) :: []))))⟩), (Value.agg ⟨((Value.int IntKind.i64 (intOf (at_ (List.take 4 (Array.toList (Value.cells (at_ (elems v43) (Int.toNat x7))))) 0))) :: ((lstV (elems (at_ (List.take 4 (Array.toList (Value.cells (at_ (elems v43) (Int.toNat x7))))) 1))) :: ((lstV (elems (at_ (List.take 4 (Array.toList (Value.cells (at_ (elems v43) (Int.toNat x7))))) 2))) :: ((lstV (elems (at_ (List.take 4 (Array.toList (Value.cells (at_ (elems v43) (Int.toNat x7))))) 3))) :: []))))⟩)]) fun v45 s46 _ =>
 (gdL 1023 (writesOf s46) s46 [⟨6, writesOf s44, s44⟩, ⟨1, writesOf s42, s42⟩]
 (cnd
 (cnd
 (Prog.ret (Value.bool Bool.false))
 (p18_14 f x2 x2o x3 x3o (IntKind.wrap IntKind.i64 (x7 + (1 : Int))))
 (Bool.not (boolOf v45)))
 Prog.fail
 (okK Kd.bool v45))))
 Prog.fail
 (okKs ((Kd.int IntKind.i64) :: (Kd.lst :: (Kd.lst :: (Kd.lst :: [])))) (List.take 4 (Array.toList (Value.cells (at_ (elems v43) (Int.toNat x7)))))))
 Prog.fail
 (Nat.ble 4 (List.length (Array.toList (Value.cells (at_ (elems v43) (Int.toNat x7)))))))
 Prog.fail
 (((Nat.ble (Nat.succ (Int.toNat x7)) (List.length (elems v43))) && Bool.true) && (hdOk 4 (elems v43))))
 Prog.fail
 (decide ((0 : Int) ≤ x7)))
 Prog.fail
 (isLst v43))))
 Prog.fail
 (okKs ((Kd.int IntKind.i64) :: (Kd.lst :: (Kd.lst :: (Kd.lst :: [])))) (List.take 4 (Array.toList (Value.cells (at_ (elems v41) (Int.toNat x7)))))))
 Prog.fail
 (Nat.ble 4 (List.length (Array.toList (Value.cells (at_ (elems v41) (Int.toNat x7)))))))
 Prog.fail
 (((Nat.ble (Nat.succ (Int.toNat x7)) (List.length (elems v41))) && Bool.true) && (hdOk 4 (elems v41))))
 Prog.fail
 (decide ((0 : Int) ≤ x7)))
 Prog.fail
 (isLst v41)))
 (Prog.ret (Value.bool Bool.true))
 (decide (x7 < (Int.ofNat (List.length (elems v40))))))
 Prog.fail
 (isLst v40)))
 (loadT En 30 x2 (x2o + 3))) := by kernel_rfl
theorem f18_eq (f : Nat) (x0_0 : Int) (x0_1 : List Value) (x0_2 : List Value) (x0_3 : List Value) (x1_0 : Int) (x1_1 : List Value) (x1_2 : List Value) (x1_3 : List Value) : callF En (runP En (f + 1)) 18 [(Value.agg ⟨((Value.int IntKind.i64 x0_0) :: ((lstV x0_1) :: ((lstV x0_2) :: ((lstV x0_3) :: []))))⟩), (Value.agg ⟨((Value.int IntKind.i64 x1_0) :: ((lstV x1_1) :: ((lstV x1_2) :: ((lstV x1_3) :: []))))⟩)] =
 (gd Bool.true
 (callP (fun v48 =>
 (cnd
 (gd Bool.true
 (callP (fun v50 =>
 (cnd
 (callP (fun v51 =>
 (cnd
 (callP (fun v52 =>
 (cnd
 (cnd
 (Prog.ret (Value.bool Bool.false))
 (callP (fun v53 =>
 (cnd
 (callP (fun v54 =>
 (cnd
 (cnd
 (Prog.ret (Value.bool Bool.false))
 (callP (fun v55 =>
 (cnd
 (callP (fun v56 =>
 (cnd
 (cnd
 (Prog.ret (Value.bool Bool.false))
 (callP (fun v57 =>
 (cnd
 (callP (fun v58 =>
 (cnd
 (cnd
 (Prog.ret (Value.bool Bool.false))
 (p18_4 f (blkOf v48) (offOf v48) (blkOf v50) (offOf v50) (0 : Int))
 (Bool.not (decide ((Int.ofNat (List.length (elems v57))) = (Int.ofNat (List.length (elems v58)))))))
 Prog.fail
 (isLst v58)))
 (loadT En 30 (blkOf v50) ((offOf v50) + 3)))
 Prog.fail
 (isLst v57)))
 (loadT En 30 (blkOf v48) ((offOf v48) + 3)))
 (Bool.not (decide ((Int.ofNat (List.length (elems v55))) = (Int.ofNat (List.length (elems v56)))))))
 Prog.fail
 (isLst v56)))
 (loadT En 29 (blkOf v50) ((offOf v50) + 2)))
 Prog.fail
 (isLst v55)))
 (loadT En 29 (blkOf v48) ((offOf v48) + 2)))
 (Bool.not (decide ((Int.ofNat (List.length (elems v53))) = (Int.ofNat (List.length (elems v54)))))))
 Prog.fail
 (isLst v54)))
 (loadT En 28 (blkOf v50) ((offOf v50) + 1)))
 Prog.fail
 (isLst v53)))
 (loadT En 28 (blkOf v48) ((offOf v48) + 1)))
 (Bool.not (decide ((intOf v51) = (intOf v52)))))
 Prog.fail
 (okK (Kd.int IntKind.i64) v52)))
 (loadT En 3 (blkOf v50) ((offOf v50) + 0)))
 Prog.fail
 (okK (Kd.int IntKind.i64) v51)))
 (loadT En 3 (blkOf v48) ((offOf v48) + 0)))
 Prog.fail
 (isPt v50)))
 (Prog.newH (Hdr.mk 4 32 Bool.false Bool.true Bool.true 0 Bool.false Bool.false []) ((Value.int IntKind.i64 x1_0) :: ((lstV x1_1) :: ((lstV x1_2) :: ((lstV x1_3) :: [])))) (fun z49 => (Prog.ret (itP z49))))))
 Prog.fail
 (isPt v48)))
 (Prog.newH (Hdr.mk 4 32 Bool.false Bool.true Bool.true 0 Bool.false Bool.false []) ((Value.int IntKind.i64 x0_0) :: ((lstV x0_1) :: ((lstV x0_2) :: ((lstV x0_3) :: [])))) (fun z47 => (Prog.ret (itP z47)))))) := by kernel_rfl
end Go.Proofs.YtmjbmbmnnephjaaGreatDoor
/- What comes of the points of a function: printed by the tool. -/
namespace Go.Proofs.YtmjbmbmnnephjaaGreatDoor
open Go Go.Ev Go.Proofs
set_option maxRecDepth 8000
set_option linter.unusedVariables false
end Go.Proofs.YtmjbmbmnnephjaaGreatDoor
/- What comes of the points of a function: printed by the tool. -/
namespace Go.Proofs.YtmjbmbmnnephjaaGreatDoor
open Go Go.Ev Go.Proofs
set_option maxRecDepth 8000
set_option linter.unusedVariables false
end Go.Proofs.YtmjbmbmnnephjaaGreatDoor
/- What comes of the points of a function: printed by the tool. -/
namespace Go.Proofs.YtmjbmbmnnephjaaGreatDoor
open Go Go.Ev Go.Proofs
set_option maxRecDepth 8000
set_option linter.unusedVariables false
end Go.Proofs.YtmjbmbmnnephjaaGreatDoor
/- What comes of the points of a function: printed by the tool. -/
namespace Go.Proofs.YtmjbmbmnnephjaaGreatDoor
open Go Go.Ev Go.Proofs
set_option maxRecDepth 8000
set_option linter.unusedVariables false
noncomputable def p32_2 (f : Nat) (x0 : Nat) (x1 : Nat) (x5 : Int) : Prog := runP En f 32 (tmL 50 [(0, (Value.pointer (Option.some (Addr.mk x0 0 Option.none)))), (1, (Value.func (Fn.func x1) ⟨[]⟩ ⟨[]⟩)), (5, (Value.int IntKind.i64 x5))]) [.code (cL (cL (cI (cI (cL (cR (cR (cB 32)))))))), .code (cR (cL (cI (cI (cL (cR (cR (cB 32)))))))), .code (cR (cI (cI (cL (cR (cR (cB 32))))))), .inLoop (cI (cI (cL (cR (cR (cB 32)))))), .inBlock 0, .code (cR (cR (cR (cB 32))))] [] none
theorem p32_2_eq (f : Nat) (x0 : Nat) (x1 : Nat) (x5 : Int) : p32_2 (f + 1) x0 x1 x5 =
 (Prog.seg (loadT En 3 x0 1) fun v1 s2 _ =>
 (cnd
 (Prog.seg (loadT En 9 x0 0) fun v3 s4 _ =>
 (gdL 448 (writesOf s4) s4 [⟨3, writesOf s2, s2⟩]
 (cnd
 (cnd
 (Prog.seg (loadT En 9 x0 0) fun v5 s6 _ =>
 (gdL 122879 (writesOf s6) s6 [⟨9, writesOf s4, s4⟩, ⟨3, writesOf s2, s2⟩]
 (cnd
 (Prog.seg (loadT En 3 x0 1) fun v7 s8 _ =>
 (gdL 1843199 (writesOf s8) s8 [⟨17, writesOf s6, s6⟩, ⟨9, writesOf s4, s4⟩, ⟨3, writesOf s2, s2⟩]
 (cnd
 (cnd
 (cnd
 (Prog.seg (callF En (runP En f) x1 ((Value.int IntKind.u8 (Int.ofNat (byteAt (strOf v5) (Int.toNat (IntKind.wrap IntKind.i64 ((intOf v7) + x5)))))) :: [])) fun v9 s10 _ =>
 (gdL 33554431 (writesOf s10) s10 [⟨21, writesOf s8, s8⟩, ⟨17, writesOf s6, s6⟩, ⟨9, writesOf s4, s4⟩, ⟨3, writesOf s2, s2⟩]
 (cnd
 (cnd
 (p32_2 f x0 x1 (IntKind.wrap IntKind.i64 (x5 + (1 : Int))))
 (Prog.seg (loadT En 9 x0 0) fun v11 s12 _ =>
 (cnd
 (Prog.seg (loadT En 3 x0 1) fun v13 s14 _ =>
 (gdL 112 (writesOf s14) s14 [⟨3, writesOf s12, s12⟩]
 (cnd
 (Prog.seg (loadT En 3 x0 1) fun v15 s16 _ =>
 (gdL 1792 (writesOf s16) s16 [⟨7, writesOf s14, s14⟩, ⟨3, writesOf s12, s12⟩]
 (cnd
 (cnd
 (cnd
 (cnd
 (Prog.ret (Value.string (mkStr (List.take ((Int.toNat (IntKind.wrap IntKind.i64 ((intOf v15) + x5))) - (Int.toNat (intOf v13))) (List.drop (Int.toNat (intOf v13)) (Array.toList (ByteArray.data (strOf v11))))))))
 Prog.fail
 ((Nat.ble (Int.toNat (intOf v13)) (Int.toNat (IntKind.wrap IntKind.i64 ((intOf v15) + x5)))) && (Nat.ble (Int.toNat (IntKind.wrap IntKind.i64 ((intOf v15) + x5))) (List.length (Array.toList (ByteArray.data (strOf v11)))))))
 Prog.fail
 (decide ((0 : Int) ≤ (IntKind.wrap IntKind.i64 ((intOf v15) + x5)))))
 Prog.fail
 (decide ((0 : Int) ≤ (intOf v13))))
 Prog.fail
 (okK (Kd.int IntKind.i64) v15))))
 Prog.fail
 (okK (Kd.int IntKind.i64) v13))))
 Prog.fail
 (okK Kd.str v11)))
 (boolOf v9))
 Prog.fail
 (okK Kd.bool v9))))
 Prog.fail
 (Nat.ble (Nat.succ (Int.toNat (IntKind.wrap IntKind.i64 ((intOf v7) + x5)))) (List.length (Array.toList (ByteArray.data (strOf v5))))))
 Prog.fail
 (decide ((0 : Int) ≤ (IntKind.wrap IntKind.i64 ((intOf v7) + x5)))))
 Prog.fail
 (okK (Kd.int IntKind.i64) v7))))
 Prog.fail
 (okK Kd.str v5))))
 (Prog.seg (loadT En 9 x0 0) fun v17 s18 _ =>
 (cnd
 (Prog.seg (loadT En 3 x0 1) fun v19 s20 _ =>
 (gdL 112 (writesOf s20) s20 [⟨3, writesOf s18, s18⟩]
 (cnd
 (Prog.seg (loadT En 3 x0 1) fun v21 s22 _ =>
 (gdL 1792 (writesOf s22) s22 [⟨7, writesOf s20, s20⟩, ⟨3, writesOf s18, s18⟩]
 (cnd
 (cnd
 (cnd
 (cnd
 (Prog.ret (Value.string (mkStr (List.take ((Int.toNat (IntKind.wrap IntKind.i64 ((intOf v21) + x5))) - (Int.toNat (intOf v19))) (List.drop (Int.toNat (intOf v19)) (Array.toList (ByteArray.data (strOf v17))))))))
 Prog.fail
 ((Nat.ble (Int.toNat (intOf v19)) (Int.toNat (IntKind.wrap IntKind.i64 ((intOf v21) + x5)))) && (Nat.ble (Int.toNat (IntKind.wrap IntKind.i64 ((intOf v21) + x5))) (List.length (Array.toList (ByteArray.data (strOf v17)))))))
 Prog.fail
 (decide ((0 : Int) ≤ (IntKind.wrap IntKind.i64 ((intOf v21) + x5)))))
 Prog.fail
 (decide ((0 : Int) ≤ (intOf v19))))
 Prog.fail
 (okK (Kd.int IntKind.i64) v21))))
 Prog.fail
 (okK (Kd.int IntKind.i64) v19))))
 Prog.fail
 (okK Kd.str v17)))
 (decide ((IntKind.wrap IntKind.i64 ((intOf v1) + x5)) < (Int.ofNat (List.length (Array.toList (ByteArray.data (strOf v3))))))))
 Prog.fail
 (okK Kd.str v3))))
 Prog.fail
 (okK (Kd.int IntKind.i64) v1))) := by kernel_rfl
theorem f32_eq (f : Nat) (x0 : Nat) (x1 : Nat) : callF En (runP En (f + 1)) 32 [(Value.pointer (Option.some (Addr.mk x0 0 Option.none))), (Value.func (Fn.func x1) ⟨[]⟩ ⟨[]⟩)] =
 (p32_2 f x0 x1 (0 : Int)) := by kernel_rfl
end Go.Proofs.YtmjbmbmnnephjaaGreatDoor
/- What comes of the points of a function: printed by the tool. -/
namespace Go.Proofs.YtmjbmbmnnephjaaGreatDoor
open Go Go.Ev Go.Proofs
set_option maxRecDepth 8000
set_option linter.unusedVariables false
theorem f33_eq (f : Nat) (x0 : Int) : callF En (runP En (f + 1)) 33 [(Value.int IntKind.u8 x0)] =
 (Prog.ret (Value.bool (decide (x0 = (32 : Int))))) := by kernel_rfl
end Go.Proofs.YtmjbmbmnnephjaaGreatDoor
/- What comes of the points of a function: printed by the tool. -/
namespace Go.Proofs.YtmjbmbmnnephjaaGreatDoor
open Go Go.Ev Go.Proofs
set_option maxRecDepth 8000
set_option linter.unusedVariables false
noncomputable def p34_21 (f : Nat) (x0 : Nat) (x2 : Int) : Prog := runP En f 34 (tmL 161 [(0, (Value.pointer (Option.some (Addr.mk x0 0 Option.none)))), (2, (Value.int IntKind.i64 x2))]) [.code (cR (cR (cL (cR (cR (cR (cR (cR (cR (cR (cR (cR (cR (cR (cI (cR (cB 34))))))))))))))))), .inBlock 0] [] none
theorem f34_eq (f : Nat) (x0 : Nat) : callF En (runP En (f + 1)) 34 [(Value.pointer (Option.some (Addr.mk x0 0 Option.none)))] =
 (Prog.seg (loadT En 3 x0 1) fun v66 s67 _ =>
 (cnd
 (Prog.seg (callF En (runP En f) 59 [(Value.pointer (Option.some (Addr.mk x0 0 Option.none))), (Value.int IntKind.i64 (0 : Int))]) fun v68 s69 _ =>
 (gdL 224 (writesOf s69) s69 [⟨4, writesOf s67, s67⟩]
 (cnd
 (Prog.call (callF En (runP En f) 60 [(Value.int IntKind.u8 (intOf v68))]) fun v70 =>
 (cnd
 (cnd
 (Prog.call (callF En (runP En f) 62 [(Value.pointer (Option.some (Addr.mk x0 0 Option.none)))]) fun v71 =>
 (cnd
 (Prog.ret (Value.tuple ⟨[]⟩))
 Prog.fail
 ((isTupV v71) && (okNs [] (tupOf v71)))))
 (Prog.call (callF En (runP En f) 61 [(Value.pointer (Option.some (Addr.mk x0 0 Option.none)))]) fun v72 =>
 (cnd
 (cnd
 (Prog.call (callF En (runP En f) 62 [(Value.pointer (Option.some (Addr.mk x0 0 Option.none)))]) fun v73 =>
 (cnd
 (Prog.ret (Value.tuple ⟨[]⟩))
 Prog.fail
 ((isTupV v73) && (okNs [] (tupOf v73)))))
 (Prog.call (callF En (runP En f) 44 [(Value.int IntKind.u8 (intOf v68))]) fun v74 =>
 (cnd
 (cnd
 (Prog.call (callF En (runP En f) 32 [(Value.pointer (Option.some (Addr.mk x0 0 Option.none))), (Value.func (Fn.func 43) ⟨[]⟩ ⟨[]⟩)]) fun v75 =>
 (cnd
 (callP (fun v76 =>
 (cnd
 (callP (fun v77 =>
 (gd Bool.true
 (Prog.call (callF En (runP En f) 63 [(Value.pointer (Option.some (Addr.mk x0 0 Option.none))), (Value.int IntKind.i64 (2 : Int)), (Value.int IntKind.i64 (intOf v66)), (Value.string (strOf v75)), (Value.agg ⟨((Value.int IntKind.i64 (0 : Int)) :: ((lstV []) :: ((lstV []) :: ((lstV []) :: []))))⟩)]) fun v78 =>
 (cnd
 (Prog.ret (Value.tuple ⟨[]⟩))
 Prog.fail
 ((isTupV v78) && (okNs [] (tupOf v78)))))))
 (storeT En 3 x0 1 (Value.int IntKind.i64 (IntKind.wrap IntKind.i64 ((intOf v76) + (Int.ofNat (List.length (Array.toList (ByteArray.data (strOf v75))))))))))
 Prog.fail
 (okK (Kd.int IntKind.i64) v76)))
 (loadT En 3 x0 1))
 Prog.fail
 (okK Kd.str v75)))
 (cnd
 (Prog.call (callF En (runP En f) 64 [(Value.pointer (Option.some (Addr.mk x0 0 Option.none)))]) fun v79 =>
 (cnd
 (Prog.ret (Value.tuple ⟨[]⟩))
 Prog.fail
 ((isTupV v79) && (okNs [] (tupOf v79)))))
 (cnd
 (Prog.call (callF En (runP En f) 65 [(Value.pointer (Option.some (Addr.mk x0 0 Option.none))), (Value.int IntKind.i64 (0 : Int))]) fun v80 =>
 (cnd
 (callP (fun v81 =>
 (cnd
 (callP (fun v82 =>
 (gd Bool.true
 (Prog.call (callF En (runP En f) 63 [(Value.pointer (Option.some (Addr.mk x0 0 Option.none))), (Value.int IntKind.i64 (3 : Int)), (Value.int IntKind.i64 (intOf v66)), (Value.string (strOf (at_ (tupOf v80) 0))), (Value.agg ⟨((Value.int IntKind.i64 (0 : Int)) :: ((lstV []) :: ((lstV []) :: ((lstV []) :: []))))⟩)]) fun v83 =>
 (cnd
 (Prog.ret (Value.tuple ⟨[]⟩))
 Prog.fail
 ((isTupV v83) && (okNs [] (tupOf v83)))))))
 (storeT En 3 x0 1 (Value.int IntKind.i64 (IntKind.wrap IntKind.i64 ((intOf v81) + (intOf (at_ (tupOf v80) 1)))))))
 Prog.fail
 (okK (Kd.int IntKind.i64) v81)))
 (loadT En 3 x0 1))
 Prog.fail
 ((isTupV v80) && (okNs ((Nm.one Kd.str) :: ((Nm.one (Kd.int IntKind.i64)) :: [])) (tupOf v80)))))
 (cnd
 (Prog.call (callF En (runP En f) 66 [(Value.string (mkStr [43, 45, 42, 37, 33, 38, 124, 60, 62, 61, 126, 44, 94, 35, 95, 63, 64, 36, 46])), (Value.int IntKind.u8 (intOf v68))]) fun v84 =>
 (cnd
 (cnd
 (callP (fun v85 =>
 (cnd
 (callP (fun v86 =>
 (Prog.seg (loadT En 9 x0 0) fun v87 s88 _ =>
 (cnd
 (Prog.seg (loadT En 3 x0 1) fun v89 s90 _ =>
 (gdL 3840 (writesOf s90) s90 [⟨6, writesOf s88, s88⟩]
 (cnd
 (cnd
 (cnd
 (cnd
 (gd Bool.true
 (Prog.seg (callF En (runP En f) 63 [(Value.pointer (Option.some (Addr.mk x0 0 Option.none))), (Value.int IntKind.i64 (4 : Int)), (Value.int IntKind.i64 (intOf v66)), (Value.string (mkStr (List.take ((Int.toNat (intOf v89)) - (Int.toNat (intOf v66))) (List.drop (Int.toNat (intOf v66)) (Array.toList (ByteArray.data (strOf v87))))))), (Value.agg ⟨((Value.int IntKind.i64 (0 : Int)) :: ((lstV []) :: ((lstV []) :: ((lstV []) :: []))))⟩)]) fun v91 s92 _ =>
 (gdL 32767 (writesOf s92) s92 [⟨12, writesOf s90, s90⟩, ⟨6, writesOf s88, s88⟩]
 (cnd
 (Prog.ret (Value.tuple ⟨[]⟩))
 Prog.fail
 ((isTupV v91) && (okNs [] (tupOf v91)))))))
 Prog.fail
 ((Nat.ble (Int.toNat (intOf v66)) (Int.toNat (intOf v89))) && (Nat.ble (Int.toNat (intOf v89)) (List.length (Array.toList (ByteArray.data (strOf v87)))))))
 Prog.fail
 (decide ((0 : Int) ≤ (intOf v89))))
 Prog.fail
 (decide ((0 : Int) ≤ (intOf v66))))
 Prog.fail
 (okK (Kd.int IntKind.i64) v89))))
 Prog.fail
 (okK Kd.str v87))))
 (storeT En 3 x0 1 (Value.int IntKind.i64 (IntKind.wrap IntKind.i64 ((intOf v85) + (1 : Int))))))
 Prog.fail
 (okK (Kd.int IntKind.i64) v85)))
 (loadT En 3 x0 1))
 (cnd
 (callP (fun v93 =>
 (cnd
 (callP (fun v94 =>
 (Prog.call (callF En (runP En f) 59 [(Value.pointer (Option.some (Addr.mk x0 0 Option.none))), (Value.int IntKind.i64 (0 : Int))]) fun v95 =>
 (cnd
 (cnd
 (callP (fun v96 =>
 (cnd
 (callP (fun v97 =>
 (p34_21 f x0 (intOf v66)))
 (storeT En 3 x0 1 (Value.int IntKind.i64 (IntKind.wrap IntKind.i64 ((intOf v96) + (1 : Int))))))
 Prog.fail
 (okK (Kd.int IntKind.i64) v96)))
 (loadT En 3 x0 1))
 (p34_21 f x0 (intOf v66))
 (decide ((intOf v95) = (58 : Int))))
 Prog.fail
 (okK (Kd.int IntKind.u8) v95))))
 (storeT En 3 x0 1 (Value.int IntKind.i64 (IntKind.wrap IntKind.i64 ((intOf v93) + (1 : Int))))))
 Prog.fail
 (okK (Kd.int IntKind.i64) v93)))
 (loadT En 3 x0 1))
 (cnd
 (callP (fun v98 =>
 (cnd
 (callP (fun v99 =>
 (Prog.call (callF En (runP En f) 59 [(Value.pointer (Option.some (Addr.mk x0 0 Option.none))), (Value.int IntKind.i64 (0 : Int))]) fun v100 =>
 (cnd
 (cnd
 (callP (fun v101 =>
 (cnd
 (callP (fun v102 =>
 (p34_21 f x0 (intOf v66)))
 (storeT En 3 x0 1 (Value.int IntKind.i64 (IntKind.wrap IntKind.i64 ((intOf v101) + (1 : Int))))))
 Prog.fail
 (okK (Kd.int IntKind.i64) v101)))
 (loadT En 3 x0 1))
 (p34_21 f x0 (intOf v66))
 (decide ((intOf v100) = (58 : Int))))
 Prog.fail
 (okK (Kd.int IntKind.u8) v100))))
 (storeT En 3 x0 1 (Value.int IntKind.i64 (IntKind.wrap IntKind.i64 ((intOf v98) + (1 : Int))))))
 Prog.fail
 (okK (Kd.int IntKind.i64) v98)))
 (loadT En 3 x0 1))
 (cnd
 (callP (fun v103 =>
 (cnd
 (callP (fun v104 =>
 (Prog.call (callF En (runP En f) 59 [(Value.pointer (Option.some (Addr.mk x0 0 Option.none))), (Value.int IntKind.i64 (0 : Int))]) fun v105 =>
 (cnd
 (cnd
 (callP (fun v106 =>
 (cnd
 (callP (fun v107 =>
 (p34_21 f x0 (intOf v66)))
 (storeT En 3 x0 1 (Value.int IntKind.i64 (IntKind.wrap IntKind.i64 ((intOf v106) + (1 : Int))))))
 Prog.fail
 (okK (Kd.int IntKind.i64) v106)))
 (loadT En 3 x0 1))
 (p34_21 f x0 (intOf v66))
 (decide ((intOf v105) = (58 : Int))))
 Prog.fail
 (okK (Kd.int IntKind.u8) v105))))
 (storeT En 3 x0 1 (Value.int IntKind.i64 (IntKind.wrap IntKind.i64 ((intOf v103) + (1 : Int))))))
 Prog.fail
 (okK (Kd.int IntKind.i64) v103)))
 (loadT En 3 x0 1))
 (Prog.call (callF En (runP En f) 67 [(Value.pointer (Option.some (Addr.mk x0 0 Option.none)))]) fun v108 =>
 (cnd
 (Prog.ret (Value.tuple ⟨[]⟩))
 Prog.fail
 ((isTupV v108) && (okNs [] (tupOf v108)))))
 (decide ((intOf v68) = (92 : Int))))
 (decide ((intOf v68) = (47 : Int))))
 (decide ((intOf v68) = (39 : Int))))
 (decide ((intOf v84) ≥ (0 : Int))))
 Prog.fail
 (okK (Kd.int IntKind.i64) v84)))
 (cnd
 (callP (fun v109 =>
 (cnd
 (callP (fun v110 =>
 (Prog.call (callF En (runP En f) 59 [(Value.pointer (Option.some (Addr.mk x0 0 Option.none))), (Value.int IntKind.i64 (0 : Int))]) fun v111 =>
 (cnd
 (cnd
 (callP (fun v112 =>
 (cnd
 (callP (fun v113 =>
 (p34_21 f x0 (intOf v66)))
 (storeT En 3 x0 1 (Value.int IntKind.i64 (IntKind.wrap IntKind.i64 ((intOf v112) + (1 : Int))))))
 Prog.fail
 (okK (Kd.int IntKind.i64) v112)))
 (loadT En 3 x0 1))
 (p34_21 f x0 (intOf v66))
 (decide ((intOf v111) = (58 : Int))))
 Prog.fail
 (okK (Kd.int IntKind.u8) v111))))
 (storeT En 3 x0 1 (Value.int IntKind.i64 (IntKind.wrap IntKind.i64 ((intOf v109) + (1 : Int))))))
 Prog.fail
 (okK (Kd.int IntKind.i64) v109)))
 (loadT En 3 x0 1))
 (cnd
 (callP (fun v114 =>
 (cnd
 (callP (fun v115 =>
 (Prog.call (callF En (runP En f) 59 [(Value.pointer (Option.some (Addr.mk x0 0 Option.none))), (Value.int IntKind.i64 (0 : Int))]) fun v116 =>
 (cnd
 (cnd
 (callP (fun v117 =>
 (cnd
 (callP (fun v118 =>
 (p34_21 f x0 (intOf v66)))
 (storeT En 3 x0 1 (Value.int IntKind.i64 (IntKind.wrap IntKind.i64 ((intOf v117) + (1 : Int))))))
 Prog.fail
 (okK (Kd.int IntKind.i64) v117)))
 (loadT En 3 x0 1))
 (p34_21 f x0 (intOf v66))
 (decide ((intOf v116) = (58 : Int))))
 Prog.fail
 (okK (Kd.int IntKind.u8) v116))))
 (storeT En 3 x0 1 (Value.int IntKind.i64 (IntKind.wrap IntKind.i64 ((intOf v114) + (1 : Int))))))
 Prog.fail
 (okK (Kd.int IntKind.i64) v114)))
 (loadT En 3 x0 1))
 (cnd
 (callP (fun v119 =>
 (cnd
 (callP (fun v120 =>
 (Prog.call (callF En (runP En f) 59 [(Value.pointer (Option.some (Addr.mk x0 0 Option.none))), (Value.int IntKind.i64 (0 : Int))]) fun v121 =>
 (cnd
 (cnd
 (callP (fun v122 =>
 (cnd
 (callP (fun v123 =>
 (p34_21 f x0 (intOf v66)))
 (storeT En 3 x0 1 (Value.int IntKind.i64 (IntKind.wrap IntKind.i64 ((intOf v122) + (1 : Int))))))
 Prog.fail
 (okK (Kd.int IntKind.i64) v122)))
 (loadT En 3 x0 1))
 (p34_21 f x0 (intOf v66))
 (decide ((intOf v121) = (58 : Int))))
 Prog.fail
 (okK (Kd.int IntKind.u8) v121))))
 (storeT En 3 x0 1 (Value.int IntKind.i64 (IntKind.wrap IntKind.i64 ((intOf v119) + (1 : Int))))))
 Prog.fail
 (okK (Kd.int IntKind.i64) v119)))
 (loadT En 3 x0 1))
 (Prog.call (callF En (runP En f) 67 [(Value.pointer (Option.some (Addr.mk x0 0 Option.none)))]) fun v124 =>
 (cnd
 (Prog.ret (Value.tuple ⟨[]⟩))
 Prog.fail
 ((isTupV v124) && (okNs [] (tupOf v124)))))
 (decide ((intOf v68) = (92 : Int))))
 (decide ((intOf v68) = (47 : Int))))
 (decide ((intOf v68) = (39 : Int))))
 (Bool.not (decide ((intOf v68) = (0 : Int)))))
 (decide ((intOf v68) = (34 : Int))))
 (decide ((intOf v68) = (96 : Int))))
 (boolOf v74))
 Prog.fail
 (okK Kd.bool v74)))
 (boolOf v72))
 Prog.fail
 (okK Kd.bool v72)))
 (boolOf v70))
 Prog.fail
 (okK Kd.bool v70)))
 Prog.fail
 (okK (Kd.int IntKind.u8) v68))))
 Prog.fail
 (okK (Kd.int IntKind.i64) v66))) := by kernel_rfl
end Go.Proofs.YtmjbmbmnnephjaaGreatDoor
/- What comes of the points of a function: printed by the tool. -/
namespace Go.Proofs.YtmjbmbmnnephjaaGreatDoor
open Go Go.Ev Go.Proofs
set_option maxRecDepth 8000
set_option linter.unusedVariables false
theorem f35_eq (f : Nat) (x0 : Nat) (x1 : Int) (x2 : Int) : callF En (runP En (f + 1)) 35 [(Value.pointer (Option.some (Addr.mk x0 0 Option.none))), (Value.int IntKind.i64 x1), (Value.int IntKind.i64 x2)] =
 (callP (fun v4 =>
 (cnd
 (cnd
 (callP (fun v5 =>
 (callP (fun v6 =>
 (Prog.ret (Value.tuple ⟨[]⟩)))
 (storeT En 3 x0 4 (Value.int IntKind.i64 x2))))
 (storeT En 24 x0 3 (Value.int IntKind.i64 x1)))
 (Prog.ret (Value.tuple ⟨[]⟩))
 (decide ((intOf v4) = (0 : Int))))
 Prog.fail
 (okK (Kd.int IntKind.i64) v4)))
 (loadT En 24 x0 3)) := by kernel_rfl
end Go.Proofs.YtmjbmbmnnephjaaGreatDoor
/- What comes of the points of a function: printed by the tool. -/
namespace Go.Proofs.YtmjbmbmnnephjaaGreatDoor
open Go Go.Ev Go.Proofs
set_option maxRecDepth 8000
set_option linter.unusedVariables false
noncomputable def p36_11 (f : Nat) (x1 : Int) (x2 : Nat) (x2o : Nat) (x9 : Int) : Prog := runP En f 36 (tmL 103 [(1, (Value.int IntKind.i64 x1)), (2, (Value.pointer (Option.some (Addr.mk x2 x2o Option.none)))), (9, (Value.int IntKind.i64 x9))]) [.code (cL (cL (cI (cI (cR (cL (cR (cR (cR (cR (cR (cR (cB 36))))))))))))), .code (cR (cL (cI (cI (cR (cL (cR (cR (cR (cR (cR (cR (cB 36))))))))))))), .code (cR (cI (cI (cR (cL (cR (cR (cR (cR (cR (cR (cB 36)))))))))))), .inLoop (cI (cI (cR (cL (cR (cR (cR (cR (cR (cR (cB 36))))))))))), .inBlock 0, .code (cR (cR (cR (cR (cR (cR (cR (cB 36))))))))] [] none
noncomputable def p36_18 (f : Nat) (x1 : Int) (x2 : Nat) (x2o : Nat) (x10 : Int) : Prog := runP En f 36 (tmL 103 [(1, (Value.int IntKind.i64 x1)), (2, (Value.pointer (Option.some (Addr.mk x2 x2o Option.none)))), (10, (Value.int IntKind.i64 x10))]) [.code (cL (cL (cI (cI (cR (cL (cR (cR (cR (cR (cR (cR (cR (cR (cB 36))))))))))))))), .code (cR (cL (cI (cI (cR (cL (cR (cR (cR (cR (cR (cR (cR (cR (cB 36))))))))))))))), .code (cR (cI (cI (cR (cL (cR (cR (cR (cR (cR (cR (cR (cR (cB 36)))))))))))))), .inLoop (cI (cI (cR (cL (cR (cR (cR (cR (cR (cR (cR (cR (cB 36))))))))))))), .inBlock 2, .code (cR (cR (cR (cR (cR (cR (cR (cR (cR (cB 36))))))))))] [] none
theorem p36_11_eq (f : Nat) (x1 : Int) (x2 : Nat) (x2o : Nat) (x9 : Int) : p36_11 (f + 1) x1 x2 x2o x9 =
 (callP (fun v73 =>
 (cnd
 (cnd
 (callP (fun v74 =>
 (cnd
 (cnd
 (Prog.seg (loadT En 30 x2 (x2o + 3)) fun v75 s76 _ =>
 (cnd
 (cnd
 (cnd
 (cnd
 (cnd
 (Prog.seg (callF En (runP En f) 16 [(Value.agg ⟨((Value.int IntKind.i64 (intOf (at_ (List.take 4 (Array.toList (Value.cells (at_ (elems v75) (Int.toNat x9))))) 0))) :: ((lstV (elems (at_ (List.take 4 (Array.toList (Value.cells (at_ (elems v75) (Int.toNat x9))))) 1))) :: ((lstV (elems (at_ (List.take 4 (Array.toList (Value.cells (at_ (elems v75) (Int.toNat x9))))) 2))) :: ((lstV (elems (at_ (List.take 4 (Array.toList (Value.cells (at_ (elems v75) (Int.toNat x9))))) 3))) :: []))))⟩)]) fun v77 s78 _ =>
 (gdL 31 (writesOf s78) s78 [⟨1, writesOf s76, s76⟩]
 (cnd
 (Prog.seg (loadT En 30 x2 (x2o + 3)) fun v79 s80 _ =>
 (gdL 64 (writesOf s80) s80 [⟨5, writesOf s78, s78⟩, ⟨1, writesOf s76, s76⟩]
 (cnd
 (cnd
 (cnd
 (cnd
 (Prog.seg (callF En (runP En f) 16 [(Value.agg ⟨((Value.int IntKind.i64 (intOf (at_ (List.take 4 (Array.toList (Value.cells (at_ (elems v79) 0)))) 0))) :: ((lstV (elems (at_ (List.take 4 (Array.toList (Value.cells (at_ (elems v79) 0)))) 1))) :: ((lstV (elems (at_ (List.take 4 (Array.toList (Value.cells (at_ (elems v79) 0)))) 2))) :: ((lstV (elems (at_ (List.take 4 (Array.toList (Value.cells (at_ (elems v79) 0)))) 3))) :: []))))⟩)]) fun v81 s82 _ =>
 (gdL 1023 (writesOf s82) s82 [⟨7, writesOf s80, s80⟩, ⟨5, writesOf s78, s78⟩, ⟨1, writesOf s76, s76⟩]
 (cnd
 (cnd
 (Prog.ret (Value.int IntKind.i64 (32 : Int)))
 (p36_11 f x1 x2 x2o (IntKind.wrap IntKind.i64 (x9 + (1 : Int))))
 (Bool.not (decide ((intOf v77) = (intOf v81)))))
 Prog.fail
 (okK (Kd.int IntKind.i64) v81))))
 Prog.fail
 (okKs ((Kd.int IntKind.i64) :: (Kd.lst :: (Kd.lst :: (Kd.lst :: [])))) (List.take 4 (Array.toList (Value.cells (at_ (elems v79) 0))))))
 Prog.fail
 (Nat.ble 4 (List.length (Array.toList (Value.cells (at_ (elems v79) 0))))))
 Prog.fail
 (((Nat.ble 1 (List.length (elems v79))) && Bool.true) && (hdOk 4 (elems v79))))
 Prog.fail
 (isLst v79))))
 Prog.fail
 (okK (Kd.int IntKind.i64) v77))))
 Prog.fail
 (okKs ((Kd.int IntKind.i64) :: (Kd.lst :: (Kd.lst :: (Kd.lst :: [])))) (List.take 4 (Array.toList (Value.cells (at_ (elems v75) (Int.toNat x9)))))))
 Prog.fail
 (Nat.ble 4 (List.length (Array.toList (Value.cells (at_ (elems v75) (Int.toNat x9)))))))
 Prog.fail
 (((Nat.ble (Nat.succ (Int.toNat x9)) (List.length (elems v75))) && Bool.true) && (hdOk 4 (elems v75))))
 Prog.fail
 (decide ((0 : Int) ≤ x9)))
 Prog.fail
 (isLst v75)))
 (cnd
 (Prog.ret (Value.int IntKind.i64 (0 : Int)))
 (p36_18 f x1 x2 x2o (0 : Int))
 (decide (x1 = (0 : Int))))
 (Bool.not (decide ((intOf v74) = (0 : Int)))))
 Prog.fail
 (okK (Kd.int IntKind.i64) v74)))
 (loadT En 3 x2 (x2o + 0)))
 (cnd
 (Prog.ret (Value.int IntKind.i64 (0 : Int)))
 (p36_18 f x1 x2 x2o (0 : Int))
 (decide (x1 = (0 : Int))))
 (decide (x9 < (Int.ofNat (List.length (elems v73))))))
 Prog.fail
 (isLst v73)))
 (loadT En 30 x2 (x2o + 3))) := by kernel_rfl
theorem p36_18_eq (f : Nat) (x1 : Int) (x2 : Nat) (x2o : Nat) (x10 : Int) : p36_18 (f + 1) x1 x2 x2o x10 =
 (callP (fun v83 =>
 (cnd
 (cnd
 (callP (fun v84 =>
 (cnd
 (cnd
 (cnd
 (cnd
 (cnd
 (Prog.call (callF En (runP En f) 36 [(Value.agg ⟨((Value.int IntKind.i64 (intOf (at_ (List.take 4 (Array.toList (Value.cells (at_ (elems v84) (Int.toNat x10))))) 0))) :: ((lstV (elems (at_ (List.take 4 (Array.toList (Value.cells (at_ (elems v84) (Int.toNat x10))))) 1))) :: ((lstV (elems (at_ (List.take 4 (Array.toList (Value.cells (at_ (elems v84) (Int.toNat x10))))) 2))) :: ((lstV (elems (at_ (List.take 4 (Array.toList (Value.cells (at_ (elems v84) (Int.toNat x10))))) 3))) :: []))))⟩), (Value.int IntKind.i64 (IntKind.wrap IntKind.i64 (x1 + (-1 : Int))))]) fun v85 =>
 (cnd
 (cnd
 (Prog.ret (Value.int IntKind.i64 (intOf v85)))
 (p36_18 f x1 x2 x2o (IntKind.wrap IntKind.i64 (x10 + (1 : Int))))
 (Bool.not (decide ((intOf v85) = (0 : Int)))))
 Prog.fail
 (okK (Kd.int IntKind.i64) v85)))
 Prog.fail
 (okKs ((Kd.int IntKind.i64) :: (Kd.lst :: (Kd.lst :: (Kd.lst :: [])))) (List.take 4 (Array.toList (Value.cells (at_ (elems v84) (Int.toNat x10)))))))
 Prog.fail
 (Nat.ble 4 (List.length (Array.toList (Value.cells (at_ (elems v84) (Int.toNat x10)))))))
 Prog.fail
 (((Nat.ble (Nat.succ (Int.toNat x10)) (List.length (elems v84))) && Bool.true) && (hdOk 4 (elems v84))))
 Prog.fail
 (decide ((0 : Int) ≤ x10)))
 Prog.fail
 (isLst v84)))
 (loadT En 30 x2 (x2o + 3)))
 (Prog.ret (Value.int IntKind.i64 (0 : Int)))
 (decide (x10 < (Int.ofNat (List.length (elems v83))))))
 Prog.fail
 (isLst v83)))
 (loadT En 30 x2 (x2o + 3))) := by kernel_rfl
theorem f36_eq (f : Nat) (x0_0 : Int) (x0_1 : List Value) (x0_2 : List Value) (x0_3 : List Value) (x1 : Int) : callF En (runP En (f + 1)) 36 [(Value.agg ⟨((Value.int IntKind.i64 x0_0) :: ((lstV x0_1) :: ((lstV x0_2) :: ((lstV x0_3) :: []))))⟩), (Value.int IntKind.i64 x1)] =
 (gd Bool.true
 (callP (fun v87 =>
 (cnd
 (callP (fun v88 =>
 (cnd
 (Prog.call (callF En (runP En f) 68 [(Value.int IntKind.i64 (intOf v88))]) fun v89 =>
 (cnd
 (cnd
 (Prog.ret (Value.int IntKind.i64 (30 : Int)))
 (cnd
 (callP (fun v90 =>
 (cnd
 (cnd
 (Prog.ret (Value.int IntKind.i64 (30 : Int)))
 (cnd
 (callP (fun v91 =>
 (cnd
 (cnd
 (Prog.ret (Value.int IntKind.i64 (30 : Int)))
 (cnd
 (callP (fun v92 =>
 (cnd
 (cnd
 (Prog.ret (Value.int IntKind.i64 (30 : Int)))
 (callP (fun v93 =>
 (cnd
 (Prog.call (callF En (runP En f) 69 [(Value.agg ⟨((Value.int IntKind.i64 (intOf (at_ (aggOf v93) 0))) :: ((lstV (elems (at_ (aggOf v93) 1))) :: ((lstV (elems (at_ (aggOf v93) 2))) :: ((lstV (elems (at_ (aggOf v93) 3))) :: []))))⟩)]) fun v94 =>
 (cnd
 (cnd
 (Prog.ret (Value.int IntKind.i64 (6 : Int)))
 (callP (fun v95 =>
 (cnd
 (Prog.call (callF En (runP En f) 70 [(Value.agg ⟨((Value.int IntKind.i64 (intOf (at_ (aggOf v95) 0))) :: ((lstV (elems (at_ (aggOf v95) 1))) :: ((lstV (elems (at_ (aggOf v95) 2))) :: ((lstV (elems (at_ (aggOf v95) 3))) :: []))))⟩)]) fun v96 =>
 (cnd
 (cnd
 (Prog.ret (Value.int IntKind.i64 (1 : Int)))
 (callP (fun v97 =>
 (cnd
 (Prog.call (callF En (runP En f) 71 [(Value.agg ⟨((Value.int IntKind.i64 (intOf (at_ (aggOf v97) 0))) :: ((lstV (elems (at_ (aggOf v97) 1))) :: ((lstV (elems (at_ (aggOf v97) 2))) :: ((lstV (elems (at_ (aggOf v97) 3))) :: []))))⟩)]) fun v98 =>
 (cnd
 (cnd
 (Prog.ret (Value.int IntKind.i64 (30 : Int)))
 (p36_11 f x1 (blkOf v87) (offOf v87) (1 : Int))
 (Bool.not (boolOf v98)))
 Prog.fail
 (okK Kd.bool v98)))
 Prog.fail
 ((isAggV v97) && (okKs ((Kd.int IntKind.i64) :: (Kd.lst :: (Kd.lst :: (Kd.lst :: [])))) (aggOf v97)))))
 (loadT En 32 (blkOf v87) (offOf v87)))
 (boolOf v96))
 Prog.fail
 (okK Kd.bool v96)))
 Prog.fail
 ((isAggV v95) && (okKs ((Kd.int IntKind.i64) :: (Kd.lst :: (Kd.lst :: (Kd.lst :: [])))) (aggOf v95)))))
 (loadT En 32 (blkOf v87) (offOf v87)))
 (boolOf v94))
 Prog.fail
 (okK Kd.bool v94)))
 Prog.fail
 ((isAggV v93) && (okKs ((Kd.int IntKind.i64) :: (Kd.lst :: (Kd.lst :: (Kd.lst :: [])))) (aggOf v93)))))
 (loadT En 32 (blkOf v87) (offOf v87)))
 (decide ((Int.ofNat (List.length (elems v92))) > (0 : Int))))
 Prog.fail
 (isLst v92)))
 (loadT En 30 (blkOf v87) ((offOf v87) + 3)))
 (callP (fun v99 =>
 (cnd
 (Prog.call (callF En (runP En f) 69 [(Value.agg ⟨((Value.int IntKind.i64 (intOf (at_ (aggOf v99) 0))) :: ((lstV (elems (at_ (aggOf v99) 1))) :: ((lstV (elems (at_ (aggOf v99) 2))) :: ((lstV (elems (at_ (aggOf v99) 3))) :: []))))⟩)]) fun v100 =>
 (cnd
 (cnd
 (Prog.ret (Value.int IntKind.i64 (6 : Int)))
 (callP (fun v101 =>
 (cnd
 (Prog.call (callF En (runP En f) 70 [(Value.agg ⟨((Value.int IntKind.i64 (intOf (at_ (aggOf v101) 0))) :: ((lstV (elems (at_ (aggOf v101) 1))) :: ((lstV (elems (at_ (aggOf v101) 2))) :: ((lstV (elems (at_ (aggOf v101) 3))) :: []))))⟩)]) fun v102 =>
 (cnd
 (cnd
 (Prog.ret (Value.int IntKind.i64 (1 : Int)))
 (callP (fun v103 =>
 (cnd
 (Prog.call (callF En (runP En f) 71 [(Value.agg ⟨((Value.int IntKind.i64 (intOf (at_ (aggOf v103) 0))) :: ((lstV (elems (at_ (aggOf v103) 1))) :: ((lstV (elems (at_ (aggOf v103) 2))) :: ((lstV (elems (at_ (aggOf v103) 3))) :: []))))⟩)]) fun v104 =>
 (cnd
 (cnd
 (Prog.ret (Value.int IntKind.i64 (30 : Int)))
 (p36_11 f x1 (blkOf v87) (offOf v87) (1 : Int))
 (Bool.not (boolOf v104)))
 Prog.fail
 (okK Kd.bool v104)))
 Prog.fail
 ((isAggV v103) && (okKs ((Kd.int IntKind.i64) :: (Kd.lst :: (Kd.lst :: (Kd.lst :: [])))) (aggOf v103)))))
 (loadT En 32 (blkOf v87) (offOf v87)))
 (boolOf v102))
 Prog.fail
 (okK Kd.bool v102)))
 Prog.fail
 ((isAggV v101) && (okKs ((Kd.int IntKind.i64) :: (Kd.lst :: (Kd.lst :: (Kd.lst :: [])))) (aggOf v101)))))
 (loadT En 32 (blkOf v87) (offOf v87)))
 (boolOf v100))
 Prog.fail
 (okK Kd.bool v100)))
 Prog.fail
 ((isAggV v99) && (okKs ((Kd.int IntKind.i64) :: (Kd.lst :: (Kd.lst :: (Kd.lst :: [])))) (aggOf v99)))))
 (loadT En 32 (blkOf v87) (offOf v87)))
 (Bool.not (boolOf (at_ (tupOf v89) 2))))
 (decide ((Int.ofNat (List.length (elems v91))) > (0 : Int))))
 Prog.fail
 (isLst v91)))
 (loadT En 29 (blkOf v87) ((offOf v87) + 2)))
 (cnd
 (callP (fun v105 =>
 (cnd
 (cnd
 (Prog.ret (Value.int IntKind.i64 (30 : Int)))
 (callP (fun v106 =>
 (cnd
 (Prog.call (callF En (runP En f) 69 [(Value.agg ⟨((Value.int IntKind.i64 (intOf (at_ (aggOf v106) 0))) :: ((lstV (elems (at_ (aggOf v106) 1))) :: ((lstV (elems (at_ (aggOf v106) 2))) :: ((lstV (elems (at_ (aggOf v106) 3))) :: []))))⟩)]) fun v107 =>
 (cnd
 (cnd
 (Prog.ret (Value.int IntKind.i64 (6 : Int)))
 (callP (fun v108 =>
 (cnd
 (Prog.call (callF En (runP En f) 70 [(Value.agg ⟨((Value.int IntKind.i64 (intOf (at_ (aggOf v108) 0))) :: ((lstV (elems (at_ (aggOf v108) 1))) :: ((lstV (elems (at_ (aggOf v108) 2))) :: ((lstV (elems (at_ (aggOf v108) 3))) :: []))))⟩)]) fun v109 =>
 (cnd
 (cnd
 (Prog.ret (Value.int IntKind.i64 (1 : Int)))
 (callP (fun v110 =>
 (cnd
 (Prog.call (callF En (runP En f) 71 [(Value.agg ⟨((Value.int IntKind.i64 (intOf (at_ (aggOf v110) 0))) :: ((lstV (elems (at_ (aggOf v110) 1))) :: ((lstV (elems (at_ (aggOf v110) 2))) :: ((lstV (elems (at_ (aggOf v110) 3))) :: []))))⟩)]) fun v111 =>
 (cnd
 (cnd
 (Prog.ret (Value.int IntKind.i64 (30 : Int)))
 (p36_11 f x1 (blkOf v87) (offOf v87) (1 : Int))
 (Bool.not (boolOf v111)))
 Prog.fail
 (okK Kd.bool v111)))
 Prog.fail
 ((isAggV v110) && (okKs ((Kd.int IntKind.i64) :: (Kd.lst :: (Kd.lst :: (Kd.lst :: [])))) (aggOf v110)))))
 (loadT En 32 (blkOf v87) (offOf v87)))
 (boolOf v109))
 Prog.fail
 (okK Kd.bool v109)))
 Prog.fail
 ((isAggV v108) && (okKs ((Kd.int IntKind.i64) :: (Kd.lst :: (Kd.lst :: (Kd.lst :: [])))) (aggOf v108)))))
 (loadT En 32 (blkOf v87) (offOf v87)))
 (boolOf v107))
 Prog.fail
 (okK Kd.bool v107)))
 Prog.fail
 ((isAggV v106) && (okKs ((Kd.int IntKind.i64) :: (Kd.lst :: (Kd.lst :: (Kd.lst :: [])))) (aggOf v106)))))
 (loadT En 32 (blkOf v87) (offOf v87)))
 (decide ((Int.ofNat (List.length (elems v105))) > (0 : Int))))
 Prog.fail
 (isLst v105)))
 (loadT En 30 (blkOf v87) ((offOf v87) + 3)))
 (callP (fun v112 =>
 (cnd
 (Prog.call (callF En (runP En f) 69 [(Value.agg ⟨((Value.int IntKind.i64 (intOf (at_ (aggOf v112) 0))) :: ((lstV (elems (at_ (aggOf v112) 1))) :: ((lstV (elems (at_ (aggOf v112) 2))) :: ((lstV (elems (at_ (aggOf v112) 3))) :: []))))⟩)]) fun v113 =>
 (cnd
 (cnd
 (Prog.ret (Value.int IntKind.i64 (6 : Int)))
 (callP (fun v114 =>
 (cnd
 (Prog.call (callF En (runP En f) 70 [(Value.agg ⟨((Value.int IntKind.i64 (intOf (at_ (aggOf v114) 0))) :: ((lstV (elems (at_ (aggOf v114) 1))) :: ((lstV (elems (at_ (aggOf v114) 2))) :: ((lstV (elems (at_ (aggOf v114) 3))) :: []))))⟩)]) fun v115 =>
 (cnd
 (cnd
 (Prog.ret (Value.int IntKind.i64 (1 : Int)))
 (callP (fun v116 =>
 (cnd
 (Prog.call (callF En (runP En f) 71 [(Value.agg ⟨((Value.int IntKind.i64 (intOf (at_ (aggOf v116) 0))) :: ((lstV (elems (at_ (aggOf v116) 1))) :: ((lstV (elems (at_ (aggOf v116) 2))) :: ((lstV (elems (at_ (aggOf v116) 3))) :: []))))⟩)]) fun v117 =>
 (cnd
 (cnd
 (Prog.ret (Value.int IntKind.i64 (30 : Int)))
 (p36_11 f x1 (blkOf v87) (offOf v87) (1 : Int))
 (Bool.not (boolOf v117)))
 Prog.fail
 (okK Kd.bool v117)))
 Prog.fail
 ((isAggV v116) && (okKs ((Kd.int IntKind.i64) :: (Kd.lst :: (Kd.lst :: (Kd.lst :: [])))) (aggOf v116)))))
 (loadT En 32 (blkOf v87) (offOf v87)))
 (boolOf v115))
 Prog.fail
 (okK Kd.bool v115)))
 Prog.fail
 ((isAggV v114) && (okKs ((Kd.int IntKind.i64) :: (Kd.lst :: (Kd.lst :: (Kd.lst :: [])))) (aggOf v114)))))
 (loadT En 32 (blkOf v87) (offOf v87)))
 (boolOf v113))
 Prog.fail
 (okK Kd.bool v113)))
 Prog.fail
 ((isAggV v112) && (okKs ((Kd.int IntKind.i64) :: (Kd.lst :: (Kd.lst :: (Kd.lst :: [])))) (aggOf v112)))))
 (loadT En 32 (blkOf v87) (offOf v87)))
 (Bool.not (boolOf (at_ (tupOf v89) 2))))
 (Bool.not (boolOf (at_ (tupOf v89) 1))))
 (decide ((Int.ofNat (List.length (elems v90))) > (0 : Int))))
 Prog.fail
 (isLst v90)))
 (loadT En 28 (blkOf v87) ((offOf v87) + 1)))
 (cnd
 (callP (fun v118 =>
 (cnd
 (cnd
 (Prog.ret (Value.int IntKind.i64 (30 : Int)))
 (cnd
 (callP (fun v119 =>
 (cnd
 (cnd
 (Prog.ret (Value.int IntKind.i64 (30 : Int)))
 (callP (fun v120 =>
 (cnd
 (Prog.call (callF En (runP En f) 69 [(Value.agg ⟨((Value.int IntKind.i64 (intOf (at_ (aggOf v120) 0))) :: ((lstV (elems (at_ (aggOf v120) 1))) :: ((lstV (elems (at_ (aggOf v120) 2))) :: ((lstV (elems (at_ (aggOf v120) 3))) :: []))))⟩)]) fun v121 =>
 (cnd
 (cnd
 (Prog.ret (Value.int IntKind.i64 (6 : Int)))
 (callP (fun v122 =>
 (cnd
 (Prog.call (callF En (runP En f) 70 [(Value.agg ⟨((Value.int IntKind.i64 (intOf (at_ (aggOf v122) 0))) :: ((lstV (elems (at_ (aggOf v122) 1))) :: ((lstV (elems (at_ (aggOf v122) 2))) :: ((lstV (elems (at_ (aggOf v122) 3))) :: []))))⟩)]) fun v123 =>
 (cnd
 (cnd
 (Prog.ret (Value.int IntKind.i64 (1 : Int)))
 (callP (fun v124 =>
 (cnd
 (Prog.call (callF En (runP En f) 71 [(Value.agg ⟨((Value.int IntKind.i64 (intOf (at_ (aggOf v124) 0))) :: ((lstV (elems (at_ (aggOf v124) 1))) :: ((lstV (elems (at_ (aggOf v124) 2))) :: ((lstV (elems (at_ (aggOf v124) 3))) :: []))))⟩)]) fun v125 =>
 (cnd
 (cnd
 (Prog.ret (Value.int IntKind.i64 (30 : Int)))
 (p36_11 f x1 (blkOf v87) (offOf v87) (1 : Int))
 (Bool.not (boolOf v125)))
 Prog.fail
 (okK Kd.bool v125)))
 Prog.fail
 ((isAggV v124) && (okKs ((Kd.int IntKind.i64) :: (Kd.lst :: (Kd.lst :: (Kd.lst :: [])))) (aggOf v124)))))
 (loadT En 32 (blkOf v87) (offOf v87)))
 (boolOf v123))
 Prog.fail
 (okK Kd.bool v123)))
 Prog.fail
 ((isAggV v122) && (okKs ((Kd.int IntKind.i64) :: (Kd.lst :: (Kd.lst :: (Kd.lst :: [])))) (aggOf v122)))))
 (loadT En 32 (blkOf v87) (offOf v87)))
 (boolOf v121))
 Prog.fail
 (okK Kd.bool v121)))
 Prog.fail
 ((isAggV v120) && (okKs ((Kd.int IntKind.i64) :: (Kd.lst :: (Kd.lst :: (Kd.lst :: [])))) (aggOf v120)))))
 (loadT En 32 (blkOf v87) (offOf v87)))
 (decide ((Int.ofNat (List.length (elems v119))) > (0 : Int))))
 Prog.fail
 (isLst v119)))
 (loadT En 30 (blkOf v87) ((offOf v87) + 3)))
 (callP (fun v126 =>
 (cnd
 (Prog.call (callF En (runP En f) 69 [(Value.agg ⟨((Value.int IntKind.i64 (intOf (at_ (aggOf v126) 0))) :: ((lstV (elems (at_ (aggOf v126) 1))) :: ((lstV (elems (at_ (aggOf v126) 2))) :: ((lstV (elems (at_ (aggOf v126) 3))) :: []))))⟩)]) fun v127 =>
 (cnd
 (cnd
 (Prog.ret (Value.int IntKind.i64 (6 : Int)))
 (callP (fun v128 =>
 (cnd
 (Prog.call (callF En (runP En f) 70 [(Value.agg ⟨((Value.int IntKind.i64 (intOf (at_ (aggOf v128) 0))) :: ((lstV (elems (at_ (aggOf v128) 1))) :: ((lstV (elems (at_ (aggOf v128) 2))) :: ((lstV (elems (at_ (aggOf v128) 3))) :: []))))⟩)]) fun v129 =>
 (cnd
 (cnd
 (Prog.ret (Value.int IntKind.i64 (1 : Int)))
 (callP (fun v130 =>
 (cnd
 (Prog.call (callF En (runP En f) 71 [(Value.agg ⟨((Value.int IntKind.i64 (intOf (at_ (aggOf v130) 0))) :: ((lstV (elems (at_ (aggOf v130) 1))) :: ((lstV (elems (at_ (aggOf v130) 2))) :: ((lstV (elems (at_ (aggOf v130) 3))) :: []))))⟩)]) fun v131 =>
 (cnd
 (cnd
 (Prog.ret (Value.int IntKind.i64 (30 : Int)))
 (p36_11 f x1 (blkOf v87) (offOf v87) (1 : Int))
 (Bool.not (boolOf v131)))
 Prog.fail
 (okK Kd.bool v131)))
 Prog.fail
 ((isAggV v130) && (okKs ((Kd.int IntKind.i64) :: (Kd.lst :: (Kd.lst :: (Kd.lst :: [])))) (aggOf v130)))))
 (loadT En 32 (blkOf v87) (offOf v87)))
 (boolOf v129))
 Prog.fail
 (okK Kd.bool v129)))
 Prog.fail
 ((isAggV v128) && (okKs ((Kd.int IntKind.i64) :: (Kd.lst :: (Kd.lst :: (Kd.lst :: [])))) (aggOf v128)))))
 (loadT En 32 (blkOf v87) (offOf v87)))
 (boolOf v127))
 Prog.fail
 (okK Kd.bool v127)))
 Prog.fail
 ((isAggV v126) && (okKs ((Kd.int IntKind.i64) :: (Kd.lst :: (Kd.lst :: (Kd.lst :: [])))) (aggOf v126)))))
 (loadT En 32 (blkOf v87) (offOf v87)))
 (Bool.not (boolOf (at_ (tupOf v89) 2))))
 (decide ((Int.ofNat (List.length (elems v118))) > (0 : Int))))
 Prog.fail
 (isLst v118)))
 (loadT En 29 (blkOf v87) ((offOf v87) + 2)))
 (cnd
 (callP (fun v132 =>
 (cnd
 (cnd
 (Prog.ret (Value.int IntKind.i64 (30 : Int)))
 (callP (fun v133 =>
 (cnd
 (Prog.call (callF En (runP En f) 69 [(Value.agg ⟨((Value.int IntKind.i64 (intOf (at_ (aggOf v133) 0))) :: ((lstV (elems (at_ (aggOf v133) 1))) :: ((lstV (elems (at_ (aggOf v133) 2))) :: ((lstV (elems (at_ (aggOf v133) 3))) :: []))))⟩)]) fun v134 =>
 (cnd
 (cnd
 (Prog.ret (Value.int IntKind.i64 (6 : Int)))
 (callP (fun v135 =>
 (cnd
 (Prog.call (callF En (runP En f) 70 [(Value.agg ⟨((Value.int IntKind.i64 (intOf (at_ (aggOf v135) 0))) :: ((lstV (elems (at_ (aggOf v135) 1))) :: ((lstV (elems (at_ (aggOf v135) 2))) :: ((lstV (elems (at_ (aggOf v135) 3))) :: []))))⟩)]) fun v136 =>
 (cnd
 (cnd
 (Prog.ret (Value.int IntKind.i64 (1 : Int)))
 (callP (fun v137 =>
 (cnd
 (Prog.call (callF En (runP En f) 71 [(Value.agg ⟨((Value.int IntKind.i64 (intOf (at_ (aggOf v137) 0))) :: ((lstV (elems (at_ (aggOf v137) 1))) :: ((lstV (elems (at_ (aggOf v137) 2))) :: ((lstV (elems (at_ (aggOf v137) 3))) :: []))))⟩)]) fun v138 =>
 (cnd
 (cnd
 (Prog.ret (Value.int IntKind.i64 (30 : Int)))
 (p36_11 f x1 (blkOf v87) (offOf v87) (1 : Int))
 (Bool.not (boolOf v138)))
 Prog.fail
 (okK Kd.bool v138)))
 Prog.fail
 ((isAggV v137) && (okKs ((Kd.int IntKind.i64) :: (Kd.lst :: (Kd.lst :: (Kd.lst :: [])))) (aggOf v137)))))
 (loadT En 32 (blkOf v87) (offOf v87)))
 (boolOf v136))
 Prog.fail
 (okK Kd.bool v136)))
 Prog.fail
 ((isAggV v135) && (okKs ((Kd.int IntKind.i64) :: (Kd.lst :: (Kd.lst :: (Kd.lst :: [])))) (aggOf v135)))))
 (loadT En 32 (blkOf v87) (offOf v87)))
 (boolOf v134))
 Prog.fail
 (okK Kd.bool v134)))
 Prog.fail
 ((isAggV v133) && (okKs ((Kd.int IntKind.i64) :: (Kd.lst :: (Kd.lst :: (Kd.lst :: [])))) (aggOf v133)))))
 (loadT En 32 (blkOf v87) (offOf v87)))
 (decide ((Int.ofNat (List.length (elems v132))) > (0 : Int))))
 Prog.fail
 (isLst v132)))
 (loadT En 30 (blkOf v87) ((offOf v87) + 3)))
 (callP (fun v139 =>
 (cnd
 (Prog.call (callF En (runP En f) 69 [(Value.agg ⟨((Value.int IntKind.i64 (intOf (at_ (aggOf v139) 0))) :: ((lstV (elems (at_ (aggOf v139) 1))) :: ((lstV (elems (at_ (aggOf v139) 2))) :: ((lstV (elems (at_ (aggOf v139) 3))) :: []))))⟩)]) fun v140 =>
 (cnd
 (cnd
 (Prog.ret (Value.int IntKind.i64 (6 : Int)))
 (callP (fun v141 =>
 (cnd
 (Prog.call (callF En (runP En f) 70 [(Value.agg ⟨((Value.int IntKind.i64 (intOf (at_ (aggOf v141) 0))) :: ((lstV (elems (at_ (aggOf v141) 1))) :: ((lstV (elems (at_ (aggOf v141) 2))) :: ((lstV (elems (at_ (aggOf v141) 3))) :: []))))⟩)]) fun v142 =>
 (cnd
 (cnd
 (Prog.ret (Value.int IntKind.i64 (1 : Int)))
 (callP (fun v143 =>
 (cnd
 (Prog.call (callF En (runP En f) 71 [(Value.agg ⟨((Value.int IntKind.i64 (intOf (at_ (aggOf v143) 0))) :: ((lstV (elems (at_ (aggOf v143) 1))) :: ((lstV (elems (at_ (aggOf v143) 2))) :: ((lstV (elems (at_ (aggOf v143) 3))) :: []))))⟩)]) fun v144 =>
 (cnd
 (cnd
 (Prog.ret (Value.int IntKind.i64 (30 : Int)))
 (p36_11 f x1 (blkOf v87) (offOf v87) (1 : Int))
 (Bool.not (boolOf v144)))
 Prog.fail
 (okK Kd.bool v144)))
 Prog.fail
 ((isAggV v143) && (okKs ((Kd.int IntKind.i64) :: (Kd.lst :: (Kd.lst :: (Kd.lst :: [])))) (aggOf v143)))))
 (loadT En 32 (blkOf v87) (offOf v87)))
 (boolOf v142))
 Prog.fail
 (okK Kd.bool v142)))
 Prog.fail
 ((isAggV v141) && (okKs ((Kd.int IntKind.i64) :: (Kd.lst :: (Kd.lst :: (Kd.lst :: [])))) (aggOf v141)))))
 (loadT En 32 (blkOf v87) (offOf v87)))
 (boolOf v140))
 Prog.fail
 (okK Kd.bool v140)))
 Prog.fail
 ((isAggV v139) && (okKs ((Kd.int IntKind.i64) :: (Kd.lst :: (Kd.lst :: (Kd.lst :: [])))) (aggOf v139)))))
 (loadT En 32 (blkOf v87) (offOf v87)))
 (Bool.not (boolOf (at_ (tupOf v89) 2))))
 (Bool.not (boolOf (at_ (tupOf v89) 1))))
 (Bool.not (boolOf (at_ (tupOf v89) 0))))
 (Bool.not (boolOf (at_ (tupOf v89) 3))))
 Prog.fail
 ((isTupV v89) && (okNs ((Nm.one Kd.bool) :: ((Nm.one Kd.bool) :: ((Nm.one Kd.bool) :: ((Nm.one Kd.bool) :: [])))) (tupOf v89)))))
 Prog.fail
 (okK (Kd.int IntKind.i64) v88)))
 (loadT En 3 (blkOf v87) ((offOf v87) + 0)))
 Prog.fail
 (isPt v87)))
 (Prog.newH (Hdr.mk 4 32 Bool.false Bool.true Bool.true 0 Bool.false Bool.false []) ((Value.int IntKind.i64 x0_0) :: ((lstV x0_1) :: ((lstV x0_2) :: ((lstV x0_3) :: [])))) (fun z86 => (Prog.ret (itP z86)))))) := by kernel_rfl
end Go.Proofs.YtmjbmbmnnephjaaGreatDoor
/- What comes of the points of a function: printed by the tool. -/
namespace Go.Proofs.YtmjbmbmnnephjaaGreatDoor
open Go Go.Ev Go.Proofs
set_option maxRecDepth 8000
set_option linter.unusedVariables false
noncomputable def p37_3 (f : Nat) (x1 : Nat) (x1o : Nat) (x3 : Int) (x4 : Int) : Prog := runP En f 37 (tmL 22 [(1, (Value.pointer (Option.some (Addr.mk x1 x1o Option.none)))), (3, (Value.int IntKind.i64 x3)), (4, (Value.int IntKind.i64 x4))]) [.code (cL (cL (cI (cI (cR (cL (cR (cR (cB 37))))))))), .code (cR (cL (cI (cI (cR (cL (cR (cR (cB 37))))))))), .code (cR (cI (cI (cR (cL (cR (cR (cB 37)))))))), .inLoop (cI (cI (cR (cL (cR (cR (cB 37))))))), .inBlock 0, .code (cR (cR (cR (cB 37))))] [] none
theorem p37_3_eq (f : Nat) (x1 : Nat) (x1o : Nat) (x3 : Int) (x4 : Int) : p37_3 (f + 1) x1 x1o x3 x4 =
 (callP (fun v3 =>
 (cnd
 (cnd
 (callP (fun v4 =>
 (cnd
 (cnd
 (cnd
 (cnd
 (cnd
 (Prog.call (callF En (runP En f) 37 [(Value.agg ⟨((Value.int IntKind.i64 (intOf (at_ (List.take 4 (Array.toList (Value.cells (at_ (elems v4) (Int.toNat x4))))) 0))) :: ((lstV (elems (at_ (List.take 4 (Array.toList (Value.cells (at_ (elems v4) (Int.toNat x4))))) 1))) :: ((lstV (elems (at_ (List.take 4 (Array.toList (Value.cells (at_ (elems v4) (Int.toNat x4))))) 2))) :: ((lstV (elems (at_ (List.take 4 (Array.toList (Value.cells (at_ (elems v4) (Int.toNat x4))))) 3))) :: []))))⟩)]) fun v5 =>
 (cnd
 (p37_3 f x1 x1o (if (x3 < (intOf v5)) then (intOf v5) else x3) (IntKind.wrap IntKind.i64 (x4 + (1 : Int))))
 Prog.fail
 (okK (Kd.int IntKind.i64) v5)))
 Prog.fail
 (okKs ((Kd.int IntKind.i64) :: (Kd.lst :: (Kd.lst :: (Kd.lst :: [])))) (List.take 4 (Array.toList (Value.cells (at_ (elems v4) (Int.toNat x4)))))))
 Prog.fail
 (Nat.ble 4 (List.length (Array.toList (Value.cells (at_ (elems v4) (Int.toNat x4)))))))
 Prog.fail
 (((Nat.ble (Nat.succ (Int.toNat x4)) (List.length (elems v4))) && Bool.true) && (hdOk 4 (elems v4))))
 Prog.fail
 (decide ((0 : Int) ≤ x4)))
 Prog.fail
 (isLst v4)))
 (loadT En 30 x1 (x1o + 3)))
 (Prog.ret (Value.int IntKind.i64 (IntKind.wrap IntKind.i64 (x3 + (1 : Int)))))
 (decide (x4 < (Int.ofNat (List.length (elems v3))))))
 Prog.fail
 (isLst v3)))
 (loadT En 30 x1 (x1o + 3))) := by kernel_rfl
theorem f37_eq (f : Nat) (x0_0 : Int) (x0_1 : List Value) (x0_2 : List Value) (x0_3 : List Value) : callF En (runP En (f + 1)) 37 [(Value.agg ⟨((Value.int IntKind.i64 x0_0) :: ((lstV x0_1) :: ((lstV x0_2) :: ((lstV x0_3) :: []))))⟩)] =
 (gd Bool.true
 (callP (fun v7 =>
 (cnd
 (p37_3 f (blkOf v7) (offOf v7) (0 : Int) (0 : Int))
 Prog.fail
 (isPt v7)))
 (Prog.newH (Hdr.mk 4 32 Bool.false Bool.true Bool.true 0 Bool.false Bool.false []) ((Value.int IntKind.i64 x0_0) :: ((lstV x0_1) :: ((lstV x0_2) :: ((lstV x0_3) :: [])))) (fun z6 => (Prog.ret (itP z6)))))) := by kernel_rfl
end Go.Proofs.YtmjbmbmnnephjaaGreatDoor
/- What comes of the points of a function: printed by the tool. -/
namespace Go.Proofs.YtmjbmbmnnephjaaGreatDoor
open Go Go.Ev Go.Proofs
set_option maxRecDepth 8000
set_option linter.unusedVariables false
noncomputable def p38_4 (f : Nat) (x1 : Nat) (x1o : Nat) (x3 : Int) : Prog := runP En f 38 (tmL 26 [(1, (Value.pointer (Option.some (Addr.mk x1 x1o Option.none)))), (3, (Value.int IntKind.i64 x3))]) [.code (cL (cL (cI (cI (cR (cL (cR (cR (cB 38))))))))), .code (cR (cL (cI (cI (cR (cL (cR (cR (cB 38))))))))), .code (cR (cI (cI (cR (cL (cR (cR (cB 38)))))))), .inLoop (cI (cI (cR (cL (cR (cR (cB 38))))))), .inBlock 0, .code (cR (cR (cR (cB 38))))] [] none
theorem p38_4_eq (f : Nat) (x1 : Nat) (x1o : Nat) (x3 : Int) : p38_4 (f + 1) x1 x1o x3 =
 (callP (fun v6 =>
 (cnd
 (cnd
 (callP (fun v7 =>
 (cnd
 (cnd
 (cnd
 (cnd
 (cnd
 (Prog.call (callF En (runP En f) 38 [(Value.agg ⟨((Value.int IntKind.i64 (intOf (at_ (List.take 4 (Array.toList (Value.cells (at_ (elems v7) (Int.toNat x3))))) 0))) :: ((lstV (elems (at_ (List.take 4 (Array.toList (Value.cells (at_ (elems v7) (Int.toNat x3))))) 1))) :: ((lstV (elems (at_ (List.take 4 (Array.toList (Value.cells (at_ (elems v7) (Int.toNat x3))))) 2))) :: ((lstV (elems (at_ (List.take 4 (Array.toList (Value.cells (at_ (elems v7) (Int.toNat x3))))) 3))) :: []))))⟩)]) fun v8 =>
 (cnd
 (cnd
 (Prog.ret (Value.bool Bool.false))
 (p38_4 f x1 x1o (IntKind.wrap IntKind.i64 (x3 + (1 : Int))))
 (Bool.not (boolOf v8)))
 Prog.fail
 (okK Kd.bool v8)))
 Prog.fail
 (okKs ((Kd.int IntKind.i64) :: (Kd.lst :: (Kd.lst :: (Kd.lst :: [])))) (List.take 4 (Array.toList (Value.cells (at_ (elems v7) (Int.toNat x3)))))))
 Prog.fail
 (Nat.ble 4 (List.length (Array.toList (Value.cells (at_ (elems v7) (Int.toNat x3)))))))
 Prog.fail
 (((Nat.ble (Nat.succ (Int.toNat x3)) (List.length (elems v7))) && Bool.true) && (hdOk 4 (elems v7))))
 Prog.fail
 (decide ((0 : Int) ≤ x3)))
 Prog.fail
 (isLst v7)))
 (loadT En 30 x1 (x1o + 3)))
 (Prog.ret (Value.bool Bool.true))
 (decide (x3 < (Int.ofNat (List.length (elems v6))))))
 Prog.fail
 (isLst v6)))
 (loadT En 30 x1 (x1o + 3))) := by kernel_rfl
theorem f38_eq (f : Nat) (x0_0 : Int) (x0_1 : List Value) (x0_2 : List Value) (x0_3 : List Value) : callF En (runP En (f + 1)) 38 [(Value.agg ⟨((Value.int IntKind.i64 x0_0) :: ((lstV x0_1) :: ((lstV x0_2) :: ((lstV x0_3) :: []))))⟩)] =
 (gd Bool.true
 (callP (fun v10 =>
 (cnd
 (callP (fun v11 =>
 (cnd
 (cnd
 (callP (fun v12 =>
 (cnd
 (cnd
 (cnd
 (cnd
 (Prog.call (callF En (runP En f) 72 [(Value.string (strOf (List.headD (Array.toList (Value.cells (at_ (elems v12) 0))) (Value.tuple ⟨[]⟩))))]) fun v13 =>
 (cnd
 (Prog.ret (Value.bool (boolOf v13)))
 Prog.fail
 (okK Kd.bool v13)))
 Prog.fail
 (okK Kd.str (List.headD (Array.toList (Value.cells (at_ (elems v12) 0))) (Value.tuple ⟨[]⟩))))
 Prog.fail
 (Nat.ble 1 (List.length (Array.toList (Value.cells (at_ (elems v12) 0))))))
 Prog.fail
 (((Nat.ble 1 (List.length (elems v12))) && Bool.true) && (hdOk 1 (elems v12))))
 Prog.fail
 (isLst v12)))
 (loadT En 29 (blkOf v10) ((offOf v10) + 2)))
 (p38_4 f (blkOf v10) (offOf v10) (0 : Int))
 (decide ((intOf v11) = (100 : Int))))
 Prog.fail
 (okK (Kd.int IntKind.i64) v11)))
 (loadT En 3 (blkOf v10) ((offOf v10) + 0)))
 Prog.fail
 (isPt v10)))
 (Prog.newH (Hdr.mk 4 32 Bool.false Bool.true Bool.true 0 Bool.false Bool.false []) ((Value.int IntKind.i64 x0_0) :: ((lstV x0_1) :: ((lstV x0_2) :: ((lstV x0_3) :: [])))) (fun z9 => (Prog.ret (itP z9)))))) := by kernel_rfl
end Go.Proofs.YtmjbmbmnnephjaaGreatDoor
/- What comes of the points of a function: printed by the tool. -/
namespace Go.Proofs.YtmjbmbmnnephjaaGreatDoor
open Go Go.Ev Go.Proofs
set_option maxRecDepth 8000
set_option linter.unusedVariables false
noncomputable def p39_17 (f : Nat) (x0 : Value) (x3 : Nat) (x3o : Nat) (x5 : Int) : Prog := runP En f 39 (tmL 163 [(0, x0), (3, (Value.pointer (Option.some (Addr.mk x3 x3o Option.none)))), (5, (Value.int IntKind.i64 x5))]) [.code (cL (cL (cI (cI (cR (cL (cR (cL (cR (cR (cR (cR (cR (cR (cR (cR (cR (cR (cR (cR (cR (cI (cL (cR (cB 39))))))))))))))))))))))))), .code (cR (cL (cI (cI (cR (cL (cR (cL (cR (cR (cR (cR (cR (cR (cR (cR (cR (cR (cR (cR (cR (cI (cL (cR (cB 39))))))))))))))))))))))))), .code (cR (cI (cI (cR (cL (cR (cL (cR (cR (cR (cR (cR (cR (cR (cR (cR (cR (cR (cR (cR (cI (cL (cR (cB 39)))))))))))))))))))))))), .inLoop (cI (cI (cR (cL (cR (cL (cR (cR (cR (cR (cR (cR (cR (cR (cR (cR (cR (cR (cR (cI (cL (cR (cB 39))))))))))))))))))))))), .inBlock 1, .code (cR (cR (cL (cR (cR (cR (cR (cR (cR (cR (cR (cR (cR (cR (cR (cR (cI (cL (cR (cB 39)))))))))))))))))))), .inBlock 0, .code (cR (cR (cB 39)))] [] none
noncomputable def p39_30 (f : Nat) (x0 : Value) (x3 : Nat) (x3o : Nat) (x6 : Int) : Prog := runP En f 39 (tmL 163 [(0, x0), (3, (Value.pointer (Option.some (Addr.mk x3 x3o Option.none)))), (6, (Value.int IntKind.i64 x6))]) [.code (cL (cL (cI (cI (cR (cL (cR (cR (cR (cB 39)))))))))), .code (cR (cL (cI (cI (cR (cL (cR (cR (cR (cB 39)))))))))), .code (cR (cI (cI (cR (cL (cR (cR (cR (cB 39))))))))), .inLoop (cI (cI (cR (cL (cR (cR (cR (cB 39)))))))), .inBlock 3, .code (cR (cR (cR (cR (cB 39)))))] [] none
theorem f39_eq (f : Nat) (x0 : Value) (x1_0 : Int) (x1_1 : List Value) (x1_2 : List Value) (x1_3 : List Value) : callF En (runP En (f + 1)) 39 [x0, (Value.agg ⟨((Value.int IntKind.i64 x1_0) :: ((lstV x1_1) :: ((lstV x1_2) :: ((lstV x1_3) :: []))))⟩)] =
 (gd Bool.true
 (callP (fun v101 =>
 (cnd
 (callP (fun v102 =>
 (cnd
 (cnd
 (callP (fun v103 =>
 (cnd
 (cnd
 (cnd
 (cnd
 (Prog.call (callF En (runP En f) 73 [(Value.string (strOf (List.headD (Array.toList (Value.cells (at_ (elems v103) 0))) (Value.tuple ⟨[]⟩))))]) fun v104 =>
 (cnd
 (callP (fun v105 =>
 (Prog.ret v105))
 (builtinA En Builtin.append (65 :: (9 :: [])) (x0 :: ((Value.string (strOf v104)) :: []))))
 Prog.fail
 (okK Kd.str v104)))
 Prog.fail
 (okK Kd.str (List.headD (Array.toList (Value.cells (at_ (elems v103) 0))) (Value.tuple ⟨[]⟩))))
 Prog.fail
 (Nat.ble 1 (List.length (Array.toList (Value.cells (at_ (elems v103) 0))))))
 Prog.fail
 (((Nat.ble 1 (List.length (elems v103))) && Bool.true) && (hdOk 1 (elems v103))))
 Prog.fail
 (isLst v103)))
 (loadT En 29 (blkOf v101) ((offOf v101) + 2)))
 (callP (fun v106 =>
 (cnd
 (Prog.call (callF En (runP En f) 14 [(Value.agg ⟨((Value.int IntKind.i64 (intOf (at_ (aggOf v106) 0))) :: ((lstV (elems (at_ (aggOf v106) 1))) :: ((lstV (elems (at_ (aggOf v106) 2))) :: ((lstV (elems (at_ (aggOf v106) 3))) :: []))))⟩)]) fun v107 =>
 (cnd
 (cnd
 (Prog.seg (loadT En 3 (blkOf v101) ((offOf v101) + 0)) fun v108 s109 _ =>
 (cnd
 (Prog.seg (loadT En 28 (blkOf v101) ((offOf v101) + 1)) fun v110 s111 _ =>
 (gdL 8 (writesOf s111) s111 [⟨2, writesOf s109, s109⟩]
 (cnd
 (cnd
 (cnd
 (cnd
 (Prog.seg (callF En (runP En f) 74 [(Value.int IntKind.i64 (intOf v108)), (Value.int IntKind.i64 (intOf (List.headD (Array.toList (Value.cells (at_ (elems v110) 0))) (Value.tuple ⟨[]⟩))))]) fun v112 s113 _ =>
 (gdL 126 (writesOf s113) s113 [⟨4, writesOf s111, s111⟩, ⟨2, writesOf s109, s109⟩]
 (cnd
 (Prog.seg (builtinA En Builtin.append (65 :: (9 :: [])) (x0 :: ((Value.string (strOf v112)) :: []))) fun v114 s115 _ =>
 (gdL 255 (writesOf s115) s115 [⟨7, writesOf s113, s113⟩, ⟨4, writesOf s111, s111⟩, ⟨2, writesOf s109, s109⟩]
 (Prog.ret v114)))
 Prog.fail
 (okK Kd.str v112))))
 Prog.fail
 (okK (Kd.int IntKind.i64) (List.headD (Array.toList (Value.cells (at_ (elems v110) 0))) (Value.tuple ⟨[]⟩))))
 Prog.fail
 (Nat.ble 1 (List.length (Array.toList (Value.cells (at_ (elems v110) 0))))))
 Prog.fail
 (((Nat.ble 1 (List.length (elems v110))) && Bool.true) && (hdOk 1 (elems v110))))
 Prog.fail
 (isLst v110))))
 Prog.fail
 (okK (Kd.int IntKind.i64) v108)))
 (callP (fun v116 =>
 (cnd
 (Prog.call (callF En (runP En f) 15 [(Value.agg ⟨((Value.int IntKind.i64 (intOf (at_ (aggOf v116) 0))) :: ((lstV (elems (at_ (aggOf v116) 1))) :: ((lstV (elems (at_ (aggOf v116) 2))) :: ((lstV (elems (at_ (aggOf v116) 3))) :: []))))⟩)]) fun v117 =>
 (cnd
 (cnd
 (callP (fun v118 =>
 (cnd
 (Prog.call (callF En (runP En f) 75 [x0, (Value.agg ⟨((Value.int IntKind.i64 (intOf (at_ (aggOf v118) 0))) :: ((lstV (elems (at_ (aggOf v118) 1))) :: ((lstV (elems (at_ (aggOf v118) 2))) :: ((lstV (elems (at_ (aggOf v118) 3))) :: []))))⟩)]) fun v119 =>
 (Prog.ret v119))
 Prog.fail
 ((isAggV v118) && (okKs ((Kd.int IntKind.i64) :: (Kd.lst :: (Kd.lst :: (Kd.lst :: [])))) (aggOf v118)))))
 (loadT En 32 (blkOf v101) (offOf v101)))
 (callP (fun v120 =>
 (cnd
 (cnd
 (callP (fun v121 =>
 (cnd
 (cnd
 (cnd
 (cnd
 (callP (fun v122 =>
 (Prog.ret v122))
 (builtinA En Builtin.append (65 :: (9 :: [])) (x0 :: ((Value.string (strOf (List.headD (Array.toList (Value.cells (at_ (elems v121) 0))) (Value.tuple ⟨[]⟩)))) :: []))))
 Prog.fail
 (okK Kd.str (List.headD (Array.toList (Value.cells (at_ (elems v121) 0))) (Value.tuple ⟨[]⟩))))
 Prog.fail
 (Nat.ble 1 (List.length (Array.toList (Value.cells (at_ (elems v121) 0))))))
 Prog.fail
 (((Nat.ble 1 (List.length (elems v121))) && Bool.true) && (hdOk 1 (elems v121))))
 Prog.fail
 (isLst v121)))
 (loadT En 29 (blkOf v101) ((offOf v101) + 2)))
 (callP (fun v123 =>
 (cnd
 (cnd
 (callP (fun v124 =>
 (Prog.ret v124))
 (builtinA En Builtin.append (65 :: (9 :: [])) (x0 :: ((Value.string (mkStr [58, 58])) :: []))))
 (callP (fun v125 =>
 (cnd
 (cnd
 (Prog.seg (buildSliceA En 65 1 ((Prod.mk 0 (Value.int IntKind.u8 (40 : Int))) :: [])) fun v126 s127 _ =>
 (Prog.seg (builtinA En Builtin.append (65 :: (65 :: [])) (x0 :: (v126 :: []))) fun v128 s129 _ =>
 (gdL 3 (writesOf s129) s129 [⟨1, writesOf s127, s127⟩]
 (Prog.seg (loadT En 30 (blkOf v101) ((offOf v101) + 3)) fun v130 s131 _ =>
 (gdL 8 (writesOf s131) s131 [⟨2, writesOf s129, s129⟩, ⟨1, writesOf s127, s127⟩]
 (cnd
 (cnd
 (cnd
 (cnd
 (Prog.seg (callF En (runP En f) 39 [v128, (Value.agg ⟨((Value.int IntKind.i64 (intOf (at_ (List.take 4 (Array.toList (Value.cells (at_ (elems v130) 0)))) 0))) :: ((lstV (elems (at_ (List.take 4 (Array.toList (Value.cells (at_ (elems v130) 0)))) 1))) :: ((lstV (elems (at_ (List.take 4 (Array.toList (Value.cells (at_ (elems v130) 0)))) 2))) :: ((lstV (elems (at_ (List.take 4 (Array.toList (Value.cells (at_ (elems v130) 0)))) 3))) :: []))))⟩)]) fun v132 s133 _ =>
 (gdL 127 (writesOf s133) s133 [⟨4, writesOf s131, s131⟩, ⟨2, writesOf s129, s129⟩, ⟨1, writesOf s127, s127⟩]
 (Prog.seg (buildSliceA En 65 1 ((Prod.mk 0 (Value.int IntKind.u8 (33 : Int))) :: [])) fun v134 s135 _ =>
 (gdL 0 (writesOf s135) s135 [⟨7, writesOf s133, s133⟩, ⟨4, writesOf s131, s131⟩, ⟨2, writesOf s129, s129⟩, ⟨1, writesOf s127, s127⟩]
 (Prog.seg (builtinA En Builtin.append (65 :: (65 :: [])) (v132 :: (v134 :: []))) fun v136 s137 _ =>
 (gdL 511 (writesOf s137) s137 [⟨8, writesOf s135, s135⟩, ⟨7, writesOf s133, s133⟩, ⟨4, writesOf s131, s131⟩, ⟨2, writesOf s129, s129⟩, ⟨1, writesOf s127, s127⟩]
 (callP (fun v138 =>
 (cnd
 (cnd
 (cnd
 (cnd
 (Prog.call (callF En (runP En f) 39 [v136, (Value.agg ⟨((Value.int IntKind.i64 (intOf (at_ (List.take 4 (Array.toList (Value.cells (at_ (elems v138) 1)))) 0))) :: ((lstV (elems (at_ (List.take 4 (Array.toList (Value.cells (at_ (elems v138) 1)))) 1))) :: ((lstV (elems (at_ (List.take 4 (Array.toList (Value.cells (at_ (elems v138) 1)))) 2))) :: ((lstV (elems (at_ (List.take 4 (Array.toList (Value.cells (at_ (elems v138) 1)))) 3))) :: []))))⟩)]) fun v139 =>
 (callP (fun v140 =>
 (Prog.ret v140))
 (builtinA En Builtin.append (65 :: (65 :: [])) (v139 :: ((xlstV ((Value.int IntKind.u8 (41 : Int)) :: [])) :: [])))))
 Prog.fail
 (okKs ((Kd.int IntKind.i64) :: (Kd.lst :: (Kd.lst :: (Kd.lst :: [])))) (List.take 4 (Array.toList (Value.cells (at_ (elems v138) 1))))))
 Prog.fail
 (Nat.ble 4 (List.length (Array.toList (Value.cells (at_ (elems v138) 1))))))
 Prog.fail
 (((Nat.ble 2 (List.length (elems v138))) && Bool.true) && (hdOk 4 (elems v138))))
 Prog.fail
 (isLst v138)))
 (loadT En 30 (blkOf v101) ((offOf v101) + 3)))))))))
 Prog.fail
 (okKs ((Kd.int IntKind.i64) :: (Kd.lst :: (Kd.lst :: (Kd.lst :: [])))) (List.take 4 (Array.toList (Value.cells (at_ (elems v130) 0))))))
 Prog.fail
 (Nat.ble 4 (List.length (Array.toList (Value.cells (at_ (elems v130) 0))))))
 Prog.fail
 (((Nat.ble 1 (List.length (elems v130))) && Bool.true) && (hdOk 4 (elems v130))))
 Prog.fail
 (isLst v130)))))))
 (callP (fun v141 =>
 (cnd
 (cnd
 (callP (fun v142 =>
 (p39_17 f v142 (blkOf v101) (offOf v101) (0 : Int)))
 (builtinA En Builtin.append (65 :: (9 :: [])) (x0 :: ((Value.string (mkStr [40, 91, 93])) :: []))))
 (callP (fun v143 =>
 (cnd
 (cnd
 (Prog.seg (buildSliceA En 65 1 ((Prod.mk 0 (Value.int IntKind.u8 (44 : Int))) :: [])) fun v144 s145 _ =>
 (Prog.seg (builtinA En Builtin.append (65 :: (65 :: [])) (x0 :: (v144 :: []))) fun v146 s147 _ =>
 (gdL 3 (writesOf s147) s147 [⟨1, writesOf s145, s145⟩]
 (Prog.seg (loadT En 30 (blkOf v101) ((offOf v101) + 3)) fun v148 s149 _ =>
 (gdL 8 (writesOf s149) s149 [⟨2, writesOf s147, s147⟩, ⟨1, writesOf s145, s145⟩]
 (cnd
 (cnd
 (cnd
 (cnd
 (Prog.seg (callF En (runP En f) 39 [v146, (Value.agg ⟨((Value.int IntKind.i64 (intOf (at_ (List.take 4 (Array.toList (Value.cells (at_ (elems v148) 0)))) 0))) :: ((lstV (elems (at_ (List.take 4 (Array.toList (Value.cells (at_ (elems v148) 0)))) 1))) :: ((lstV (elems (at_ (List.take 4 (Array.toList (Value.cells (at_ (elems v148) 0)))) 2))) :: ((lstV (elems (at_ (List.take 4 (Array.toList (Value.cells (at_ (elems v148) 0)))) 3))) :: []))))⟩)]) fun v150 s151 _ =>
 (gdL 127 (writesOf s151) s151 [⟨4, writesOf s149, s149⟩, ⟨2, writesOf s147, s147⟩, ⟨1, writesOf s145, s145⟩]
 (Prog.ret v150)))
 Prog.fail
 (okKs ((Kd.int IntKind.i64) :: (Kd.lst :: (Kd.lst :: (Kd.lst :: [])))) (List.take 4 (Array.toList (Value.cells (at_ (elems v148) 0))))))
 Prog.fail
 (Nat.ble 4 (List.length (Array.toList (Value.cells (at_ (elems v148) 0))))))
 Prog.fail
 (((Nat.ble 1 (List.length (elems v148))) && Bool.true) && (hdOk 4 (elems v148))))
 Prog.fail
 (isLst v148)))))))
 (callP (fun v152 =>
 (p39_30 f v152 (blkOf v101) (offOf v101) (0 : Int)))
 (builtinA En Builtin.append (65 :: (65 :: [])) (x0 :: ((xlstV ((Value.int IntKind.u8 (40 : Int)) :: [])) :: []))))
 (decide ((Int.ofNat (List.length (elems v143))) = (1 : Int))))
 Prog.fail
 (isLst v143)))
 (loadT En 30 (blkOf v101) ((offOf v101) + 3)))
 (decide ((intOf v141) = (98 : Int))))
 Prog.fail
 (okK (Kd.int IntKind.i64) v141)))
 (loadT En 3 (blkOf v101) ((offOf v101) + 0)))
 (decide ((intOf v125) = (99 : Int))))
 Prog.fail
 (okK (Kd.int IntKind.i64) v125)))
 (loadT En 3 (blkOf v101) ((offOf v101) + 0)))
 (decide ((intOf v123) = (101 : Int))))
 Prog.fail
 (okK (Kd.int IntKind.i64) v123)))
 (loadT En 3 (blkOf v101) ((offOf v101) + 0)))
 (decide ((intOf v120) = (100 : Int))))
 Prog.fail
 (okK (Kd.int IntKind.i64) v120)))
 (loadT En 3 (blkOf v101) ((offOf v101) + 0)))
 (boolOf v117))
 Prog.fail
 (okK Kd.bool v117)))
 Prog.fail
 ((isAggV v116) && (okKs ((Kd.int IntKind.i64) :: (Kd.lst :: (Kd.lst :: (Kd.lst :: [])))) (aggOf v116)))))
 (loadT En 32 (blkOf v101) (offOf v101)))
 (boolOf v107))
 Prog.fail
 (okK Kd.bool v107)))
 Prog.fail
 ((isAggV v106) && (okKs ((Kd.int IntKind.i64) :: (Kd.lst :: (Kd.lst :: (Kd.lst :: [])))) (aggOf v106)))))
 (loadT En 32 (blkOf v101) (offOf v101)))
 (decide ((intOf v102) = (-3 : Int))))
 Prog.fail
 (okK (Kd.int IntKind.i64) v102)))
 (loadT En 3 (blkOf v101) ((offOf v101) + 0)))
 Prog.fail
 (isPt v101)))
 (Prog.newH (Hdr.mk 4 32 Bool.false Bool.true Bool.true 0 Bool.false Bool.false []) ((Value.int IntKind.i64 x1_0) :: ((lstV x1_1) :: ((lstV x1_2) :: ((lstV x1_3) :: [])))) (fun z100 => (Prog.ret (itP z100)))))) := by kernel_rfl
end Go.Proofs.YtmjbmbmnnephjaaGreatDoor
/- What comes of the points of a function: printed by the tool. -/
namespace Go.Proofs.YtmjbmbmnnephjaaGreatDoor
open Go Go.Ev Go.Proofs
set_option maxRecDepth 8000
set_option linter.unusedVariables false
noncomputable def p40_3 (f : Nat) (x0 : ByteArray) (x3 : Value) (x8 : Int) (x9 : Int) : Prog := runP En f 40 (tmL 47 [(0, (Value.string x0)), (3, x3), (8, (Value.int IntKind.i64 x8)), (9, (Value.int IntKind.i64 x9))]) [.code (cL (cI (cI (cR (cL (cR (cR (cB 40)))))))), .code (cR (cI (cI (cR (cL (cR (cR (cB 40)))))))), .inLoop (cI (cI (cR (cL (cR (cR (cB 40))))))), .inBlock 0, .code (cR (cR (cR (cB 40))))] [] none
noncomputable def p40_9 (f : Nat) (x0 : ByteArray) (x3 : Value) (x8 : Int) (x9 : Int) : Prog := runP En f 40 (tmL 47 [(0, (Value.string x0)), (3, x3), (8, (Value.int IntKind.i64 x8)), (9, (Value.int IntKind.i64 x9))]) [.code (cR (cR (cR (cI (cI (cR (cL (cR (cR (cB 40)))))))))), .inLoop (cI (cI (cR (cL (cR (cR (cB 40))))))), .inBlock 0, .code (cR (cR (cR (cB 40))))] [] none
theorem p40_3_eq (f : Nat) (x0 : ByteArray) (x3 : Value) (x8 : Int) (x9 : Int) : p40_3 (f + 1) x0 x3 x8 x9 =
 (cnd
 (cnd
 (cnd
 (cnd
 (cnd
 (cnd
 (cnd
 (Prog.seg (buildSliceA En 65 4 ((Prod.mk 0 (Value.int IntKind.u8 (92 : Int))) :: ((Prod.mk 1 (Value.int IntKind.u8 (120 : Int))) :: ((Prod.mk 2 (Value.int IntKind.u8 (Int.ofNat (byteAt (mkStr [48, 49, 50, 51, 52, 53, 54, 55, 56, 57, 97, 98, 99, 100, 101, 102]) (Int.toNat (IntKind.wrap IntKind.u8 (Int.ofNat (Nat.div (byteAt x0 (Int.toNat x9)) 16)))))))) :: ((Prod.mk 3 (Value.int IntKind.u8 (Int.ofNat (byteAt (mkStr [48, 49, 50, 51, 52, 53, 54, 55, 56, 57, 97, 98, 99, 100, 101, 102]) (Nat.mod (byteAt x0 (Int.toNat x9)) 16))))) :: []))))) fun v68 s69 _ =>
 (Prog.seg (builtinA En Builtin.append (65 :: (65 :: [])) (x3 :: (v68 :: []))) fun v70 s71 _ =>
 (gdL 255 (writesOf s71) s71 [⟨7, writesOf s69, s69⟩]
 (p40_9 f x0 v70 x8 x9))))
 Prog.fail
 (Nat.ble (Nat.succ (Nat.mod (byteAt x0 (Int.toNat x9)) 16)) 16))
 Prog.fail
 (Nat.ble (Nat.succ (Int.toNat (IntKind.wrap IntKind.u8 (Int.ofNat (Nat.div (byteAt x0 (Int.toNat x9)) 16))))) 16))
 Prog.fail
 (decide ((0 : Int) ≤ (IntKind.wrap IntKind.u8 (Int.ofNat (Nat.div (byteAt x0 (Int.toNat x9)) 16))))))
 (cnd
 (cnd
 (cnd
 (cnd
 (Prog.seg (buildSliceA En 65 4 ((Prod.mk 0 (Value.int IntKind.u8 (92 : Int))) :: ((Prod.mk 1 (Value.int IntKind.u8 (120 : Int))) :: ((Prod.mk 2 (Value.int IntKind.u8 (Int.ofNat (byteAt (mkStr [48, 49, 50, 51, 52, 53, 54, 55, 56, 57, 97, 98, 99, 100, 101, 102]) (Int.toNat (IntKind.wrap IntKind.u8 (Int.ofNat (Nat.div (byteAt x0 (Int.toNat x9)) 16)))))))) :: ((Prod.mk 3 (Value.int IntKind.u8 (Int.ofNat (byteAt (mkStr [48, 49, 50, 51, 52, 53, 54, 55, 56, 57, 97, 98, 99, 100, 101, 102]) (Nat.mod (byteAt x0 (Int.toNat x9)) 16))))) :: []))))) fun v72 s73 _ =>
 (Prog.seg (builtinA En Builtin.append (65 :: (65 :: [])) (x3 :: (v72 :: []))) fun v74 s75 _ =>
 (gdL 255 (writesOf s75) s75 [⟨7, writesOf s73, s73⟩]
 (p40_9 f x0 v74 x8 x9))))
 Prog.fail
 (Nat.ble (Nat.succ (Nat.mod (byteAt x0 (Int.toNat x9)) 16)) 16))
 Prog.fail
 (Nat.ble (Nat.succ (Int.toNat (IntKind.wrap IntKind.u8 (Int.ofNat (Nat.div (byteAt x0 (Int.toNat x9)) 16))))) 16))
 Prog.fail
 (decide ((0 : Int) ≤ (IntKind.wrap IntKind.u8 (Int.ofNat (Nat.div (byteAt x0 (Int.toNat x9)) 16))))))
 (cnd
 (cnd
 (cnd
 (cnd
 (Prog.seg (buildSliceA En 65 4 ((Prod.mk 0 (Value.int IntKind.u8 (92 : Int))) :: ((Prod.mk 1 (Value.int IntKind.u8 (120 : Int))) :: ((Prod.mk 2 (Value.int IntKind.u8 (Int.ofNat (byteAt (mkStr [48, 49, 50, 51, 52, 53, 54, 55, 56, 57, 97, 98, 99, 100, 101, 102]) (Int.toNat (IntKind.wrap IntKind.u8 (Int.ofNat (Nat.div (byteAt x0 (Int.toNat x9)) 16)))))))) :: ((Prod.mk 3 (Value.int IntKind.u8 (Int.ofNat (byteAt (mkStr [48, 49, 50, 51, 52, 53, 54, 55, 56, 57, 97, 98, 99, 100, 101, 102]) (Nat.mod (byteAt x0 (Int.toNat x9)) 16))))) :: []))))) fun v76 s77 _ =>
 (Prog.seg (builtinA En Builtin.append (65 :: (65 :: [])) (x3 :: (v76 :: []))) fun v78 s79 _ =>
 (gdL 255 (writesOf s79) s79 [⟨7, writesOf s77, s77⟩]
 (p40_9 f x0 v78 x8 x9))))
 Prog.fail
 (Nat.ble (Nat.succ (Nat.mod (byteAt x0 (Int.toNat x9)) 16)) 16))
 Prog.fail
 (Nat.ble (Nat.succ (Int.toNat (IntKind.wrap IntKind.u8 (Int.ofNat (Nat.div (byteAt x0 (Int.toNat x9)) 16))))) 16))
 Prog.fail
 (decide ((0 : Int) ≤ (IntKind.wrap IntKind.u8 (Int.ofNat (Nat.div (byteAt x0 (Int.toNat x9)) 16))))))
 (cnd
 (cnd
 (cnd
 (cnd
 (Prog.seg (buildSliceA En 65 4 ((Prod.mk 0 (Value.int IntKind.u8 (92 : Int))) :: ((Prod.mk 1 (Value.int IntKind.u8 (120 : Int))) :: ((Prod.mk 2 (Value.int IntKind.u8 (Int.ofNat (byteAt (mkStr [48, 49, 50, 51, 52, 53, 54, 55, 56, 57, 97, 98, 99, 100, 101, 102]) (Int.toNat (IntKind.wrap IntKind.u8 (Int.ofNat (Nat.div (byteAt x0 (Int.toNat x9)) 16)))))))) :: ((Prod.mk 3 (Value.int IntKind.u8 (Int.ofNat (byteAt (mkStr [48, 49, 50, 51, 52, 53, 54, 55, 56, 57, 97, 98, 99, 100, 101, 102]) (Nat.mod (byteAt x0 (Int.toNat x9)) 16))))) :: []))))) fun v80 s81 _ =>
 (Prog.seg (builtinA En Builtin.append (65 :: (65 :: [])) (x3 :: (v80 :: []))) fun v82 s83 _ =>
 (gdL 255 (writesOf s83) s83 [⟨7, writesOf s81, s81⟩]
 (p40_9 f x0 v82 x8 x9))))
 Prog.fail
 (Nat.ble (Nat.succ (Nat.mod (byteAt x0 (Int.toNat x9)) 16)) 16))
 Prog.fail
 (Nat.ble (Nat.succ (Int.toNat (IntKind.wrap IntKind.u8 (Int.ofNat (Nat.div (byteAt x0 (Int.toNat x9)) 16))))) 16))
 Prog.fail
 (decide ((0 : Int) ≤ (IntKind.wrap IntKind.u8 (Int.ofNat (Nat.div (byteAt x0 (Int.toNat x9)) 16))))))
 (callP (fun v84 =>
 (p40_9 f x0 v84 x8 x9))
 (builtinA En Builtin.append (65 :: (65 :: [])) (x3 :: ((xlstV ((Value.int IntKind.u8 (Int.ofNat (byteAt x0 (Int.toNat x9)))) :: [])) :: []))))
 (decide ((Int.ofNat (byteAt x0 (Int.toNat x9))) = (92 : Int))))
 (decide ((Int.ofNat (byteAt x0 (Int.toNat x9))) = (34 : Int))))
 (decide ((Int.ofNat (byteAt x0 (Int.toNat x9))) > (126 : Int))))
 (decide ((Int.ofNat (byteAt x0 (Int.toNat x9))) < (32 : Int))))
 Prog.fail
 (Nat.ble (Nat.succ (Int.toNat x9)) (List.length (Array.toList (ByteArray.data x0)))))
 Prog.fail
 (decide ((0 : Int) ≤ x9)))
 (callP (fun v85 =>
 (callP (fun v134 =>
 (Prog.ret v134))
 (convA En 65 9 v85)))
 (builtinA En Builtin.append (65 :: (65 :: [])) (x3 :: ((xlstV ((Value.int IntKind.u8 (34 : Int)) :: [])) :: []))))
 (decide (x9 < x8))) := by kernel_rfl
theorem p40_9_eq (f : Nat) (x0 : ByteArray) (x3 : Value) (x8 : Int) (x9 : Int) : p40_9 (f + 1) x0 x3 x8 x9 =
 (p40_3 f x0 x3 x8 (IntKind.wrap IntKind.i64 (x9 + (1 : Int)))) := by kernel_rfl
theorem f40_eq (f : Nat) (x0 : ByteArray) : callF En (runP En (f + 1)) 40 [(Value.string x0)] =
 (p40_3 f x0 (xlstV ((Value.int IntKind.u8 (34 : Int)) :: [])) (Int.ofNat (List.length (Array.toList (ByteArray.data x0)))) (0 : Int)) := by kernel_rfl
end Go.Proofs.YtmjbmbmnnephjaaGreatDoor
/- What comes of the points of a function: printed by the tool. -/
namespace Go.Proofs.YtmjbmbmnnephjaaGreatDoor
open Go Go.Ev Go.Proofs
set_option maxRecDepth 8000
set_option linter.unusedVariables false
end Go.Proofs.YtmjbmbmnnephjaaGreatDoor
/- What comes of the points of a function: printed by the tool. -/
namespace Go.Proofs.YtmjbmbmnnephjaaGreatDoor
open Go Go.Ev Go.Proofs
set_option maxRecDepth 8000
set_option linter.unusedVariables false
noncomputable def p42_4 (f : Nat) (x0 : ByteArray) (x3 : ByteArray) (x4 : Value) (x5 : Int) : Prog := runP En f 42 (tmL 42 [(0, (Value.string x0)), (3, (Value.string x3)), (4, x4), (5, (Value.int IntKind.i64 x5))]) [.code (cL (cL (cI (cI (cR (cL (cR (cR (cR (cB 42)))))))))), .code (cR (cL (cI (cI (cR (cL (cR (cR (cR (cB 42)))))))))), .code (cR (cI (cI (cR (cL (cR (cR (cR (cB 42))))))))), .inLoop (cI (cI (cR (cL (cR (cR (cR (cB 42)))))))), .inBlock 0, .code (cR (cR (cR (cR (cB 42)))))] [] none
noncomputable def p42_5 (f : Nat) (x0 : ByteArray) (x3 : ByteArray) (x4 : Value) (x5 : Int) : Prog := runP En f 42 (tmL 42 [(0, (Value.string x0)), (3, (Value.string x3)), (4, x4), (5, (Value.int IntKind.i64 x5))]) [.code (cR (cR (cI (cI (cR (cL (cR (cR (cR (cB 42)))))))))), .inLoop (cI (cI (cR (cL (cR (cR (cR (cB 42)))))))), .inBlock 0, .code (cR (cR (cR (cR (cB 42)))))] [] none
theorem p42_4_eq (f : Nat) (x0 : ByteArray) (x3 : ByteArray) (x4 : Value) (x5 : Int) : p42_4 (f + 1) x0 x3 x4 x5 =
 (cnd
 (cnd
 (cnd
 (Prog.call (callF En (runP En f) 79 [(Value.int IntKind.u8 (Int.ofNat (byteAt x0 (Int.toNat x5))))]) fun v57 =>
 (cnd
 (cnd
 (cnd
 (cnd
 (callP (fun v58 =>
 (p42_5 f x0 x3 v58 x5))
 (builtinA En Builtin.append (65 :: (65 :: [])) (x4 :: ((xlstV ((Value.int IntKind.u8 (Int.ofNat (byteAt x0 (Int.toNat x5)))) :: [])) :: []))))
 Prog.fail
 (Nat.ble (Nat.succ (Int.toNat x5)) (List.length (Array.toList (ByteArray.data x0)))))
 Prog.fail
 (decide ((0 : Int) ≤ x5)))
 (cnd
 (cnd
 (cnd
 (cnd
 (cnd
 (cnd
 (cnd
 (Prog.seg (buildSliceA En 65 4 ((Prod.mk 0 (Value.int IntKind.u8 (92 : Int))) :: ((Prod.mk 1 (Value.int IntKind.u8 (120 : Int))) :: ((Prod.mk 2 (Value.int IntKind.u8 (Int.ofNat (byteAt x3 (Int.toNat (IntKind.wrap IntKind.u8 (Int.ofNat (Nat.div (byteAt x0 (Int.toNat x5)) 16)))))))) :: ((Prod.mk 3 (Value.int IntKind.u8 (Int.ofNat (byteAt x3 (Nat.mod (byteAt x0 (Int.toNat x5)) 16))))) :: []))))) fun v59 s60 _ =>
 (Prog.seg (builtinA En Builtin.append (65 :: (65 :: [])) (x4 :: (v59 :: []))) fun v61 s62 _ =>
 (gdL 16383 (writesOf s62) s62 [⟨13, writesOf s60, s60⟩]
 (p42_5 f x0 x3 v61 x5))))
 Prog.fail
 (Nat.ble (Nat.succ (Nat.mod (byteAt x0 (Int.toNat x5)) 16)) (List.length (Array.toList (ByteArray.data x3)))))
 Prog.fail
 (Nat.ble (Nat.succ (Int.toNat x5)) (List.length (Array.toList (ByteArray.data x0)))))
 Prog.fail
 (decide ((0 : Int) ≤ x5)))
 Prog.fail
 (Nat.ble (Nat.succ (Int.toNat (IntKind.wrap IntKind.u8 (Int.ofNat (Nat.div (byteAt x0 (Int.toNat x5)) 16))))) (List.length (Array.toList (ByteArray.data x3)))))
 Prog.fail
 (decide ((0 : Int) ≤ (IntKind.wrap IntKind.u8 (Int.ofNat (Nat.div (byteAt x0 (Int.toNat x5)) 16))))))
 Prog.fail
 (Nat.ble (Nat.succ (Int.toNat x5)) (List.length (Array.toList (ByteArray.data x0)))))
 Prog.fail
 (decide ((0 : Int) ≤ x5)))
 (boolOf v57))
 Prog.fail
 (okK Kd.bool v57)))
 Prog.fail
 (Nat.ble (Nat.succ (Int.toNat x5)) (List.length (Array.toList (ByteArray.data x0)))))
 Prog.fail
 (decide ((0 : Int) ≤ x5)))
 (callP (fun v63 =>
 (callP (fun v112 =>
 (Prog.ret v112))
 (convA En 65 9 v63)))
 (builtinA En Builtin.append (65 :: (65 :: [])) (x4 :: ((xlstV ((Value.int IntKind.u8 (34 : Int)) :: [])) :: []))))
 (decide (x5 < (Int.ofNat (List.length (Array.toList (ByteArray.data x0))))))) := by kernel_rfl
theorem p42_5_eq (f : Nat) (x0 : ByteArray) (x3 : ByteArray) (x4 : Value) (x5 : Int) : p42_5 (f + 1) x0 x3 x4 x5 =
 (p42_4 f x0 x3 x4 (IntKind.wrap IntKind.i64 (x5 + (1 : Int)))) := by kernel_rfl
theorem f42_eq (f : Nat) (x0 : ByteArray) : callF En (runP En (f + 1)) 42 [(Value.string x0)] =
 (p42_4 f x0 (mkStr [48, 49, 50, 51, 52, 53, 54, 55, 56, 57, 97, 98, 99, 100, 101, 102]) (xlstV ((Value.int IntKind.u8 (34 : Int)) :: [])) (0 : Int)) := by kernel_rfl
end Go.Proofs.YtmjbmbmnnephjaaGreatDoor
/- What comes of the points of a function: printed by the tool. -/
namespace Go.Proofs.YtmjbmbmnnephjaaGreatDoor
open Go Go.Ev Go.Proofs
set_option maxRecDepth 8000
set_option linter.unusedVariables false
theorem f43_eq (f : Nat) (x0 : Int) : callF En (runP En (f + 1)) 43 [(Value.int IntKind.u8 x0)] =
 (Prog.call (callF En (runP En f) 44 [(Value.int IntKind.u8 x0)]) fun v3 =>
 (cnd
 (cnd
 (Prog.ret (Value.bool Bool.true))
 (Prog.call (callF En (runP En f) 60 [(Value.int IntKind.u8 x0)]) fun v4 =>
 (cnd
 (cnd
 (Prog.ret (Value.bool Bool.true))
 (Prog.ret (Value.bool (decide (x0 = (95 : Int)))))
 (boolOf v4))
 Prog.fail
 (okK Kd.bool v4)))
 (boolOf v3))
 Prog.fail
 (okK Kd.bool v3))) := by kernel_rfl
end Go.Proofs.YtmjbmbmnnephjaaGreatDoor
/- What comes of the points of a function: printed by the tool. -/
namespace Go.Proofs.YtmjbmbmnnephjaaGreatDoor
open Go Go.Ev Go.Proofs
set_option maxRecDepth 8000
set_option linter.unusedVariables false
theorem f44_eq (f : Nat) (x0 : Int) : callF En (runP En (f + 1)) 44 [(Value.int IntKind.u8 x0)] =
 (cnd
 (cnd
 (Prog.ret (Value.bool Bool.true))
 (cnd
 (Prog.ret (Value.bool (decide (x0 ≤ (90 : Int)))))
 (Prog.ret (Value.bool Bool.false))
 (decide (x0 ≥ (65 : Int))))
 (decide (x0 ≤ (122 : Int))))
 (cnd
 (Prog.ret (Value.bool (decide (x0 ≤ (90 : Int)))))
 (Prog.ret (Value.bool Bool.false))
 (decide (x0 ≥ (65 : Int))))
 (decide (x0 ≥ (97 : Int)))) := by kernel_rfl
end Go.Proofs.YtmjbmbmnnephjaaGreatDoor
/- What comes of the points of a function: printed by the tool. -/
namespace Go.Proofs.YtmjbmbmnnephjaaGreatDoor
open Go Go.Ev Go.Proofs
set_option maxRecDepth 8000
set_option linter.unusedVariables false
end Go.Proofs.YtmjbmbmnnephjaaGreatDoor
/- What comes of the points of a function: printed by the tool. -/
namespace Go.Proofs.YtmjbmbmnnephjaaGreatDoor
open Go Go.Ev Go.Proofs
set_option maxRecDepth 8000
set_option linter.unusedVariables false
theorem f59_eq (f : Nat) (x0 : Nat) (x1 : Int) : callF En (runP En (f + 1)) 59 [(Value.pointer (Option.some (Addr.mk x0 0 Option.none))), (Value.int IntKind.i64 x1)] =
 (Prog.seg (loadT En 3 x0 1) fun v9 s10 _ =>
 (cnd
 (Prog.seg (loadT En 9 x0 0) fun v11 s12 _ =>
 (gdL 448 (writesOf s12) s12 [⟨3, writesOf s10, s10⟩]
 (cnd
 (cnd
 (Prog.seg (loadT En 9 x0 0) fun v13 s14 _ =>
 (cnd
 (Prog.seg (loadT En 3 x0 1) fun v15 s16 _ =>
 (gdL 112 (writesOf s16) s16 [⟨3, writesOf s14, s14⟩]
 (cnd
 (cnd
 (cnd
 (Prog.ret (Value.int IntKind.u8 (Int.ofNat (byteAt (strOf v13) (Int.toNat (IntKind.wrap IntKind.i64 ((intOf v15) + x1)))))))
 Prog.fail
 (Nat.ble (Nat.succ (Int.toNat (IntKind.wrap IntKind.i64 ((intOf v15) + x1)))) (List.length (Array.toList (ByteArray.data (strOf v13))))))
 Prog.fail
 (decide ((0 : Int) ≤ (IntKind.wrap IntKind.i64 ((intOf v15) + x1)))))
 Prog.fail
 (okK (Kd.int IntKind.i64) v15))))
 Prog.fail
 (okK Kd.str v13)))
 (Prog.ret (Value.int IntKind.u8 (0 : Int)))
 (decide ((IntKind.wrap IntKind.i64 ((intOf v9) + x1)) < (Int.ofNat (List.length (Array.toList (ByteArray.data (strOf v11))))))))
 Prog.fail
 (okK Kd.str v11))))
 Prog.fail
 (okK (Kd.int IntKind.i64) v9))) := by kernel_rfl
end Go.Proofs.YtmjbmbmnnephjaaGreatDoor
/- What comes of the points of a function: printed by the tool. -/
namespace Go.Proofs.YtmjbmbmnnephjaaGreatDoor
open Go Go.Ev Go.Proofs
set_option maxRecDepth 8000
set_option linter.unusedVariables false
theorem f60_eq (f : Nat) (x0 : Int) : callF En (runP En (f + 1)) 60 [(Value.int IntKind.u8 x0)] =
 (cnd
 (Prog.ret (Value.bool (decide (x0 ≤ (57 : Int)))))
 (Prog.ret (Value.bool Bool.false))
 (decide (x0 ≥ (48 : Int)))) := by kernel_rfl
end Go.Proofs.YtmjbmbmnnephjaaGreatDoor
/- What comes of the points of a function: printed by the tool. -/
namespace Go.Proofs.YtmjbmbmnnephjaaGreatDoor
open Go Go.Ev Go.Proofs
set_option maxRecDepth 8000
set_option linter.unusedVariables false
theorem f61_eq (f : Nat) (x0 : Nat) : callF En (runP En (f + 1)) 61 [(Value.pointer (Option.some (Addr.mk x0 0 Option.none)))] =
 (Prog.call (callF En (runP En f) 59 [(Value.pointer (Option.some (Addr.mk x0 0 Option.none))), (Value.int IntKind.i64 (0 : Int))]) fun v32 =>
 (cnd
 (cnd
 (Prog.ret (Value.bool Bool.false))
 (Prog.call (callF En (runP En f) 59 [(Value.pointer (Option.some (Addr.mk x0 0 Option.none))), (Value.int IntKind.i64 (1 : Int))]) fun v33 =>
 (cnd
 (Prog.call (callF En (runP En f) 60 [(Value.int IntKind.u8 (intOf v33))]) fun v34 =>
 (cnd
 (cnd
 (Prog.ret (Value.bool Bool.false))
 (Prog.seg (loadT En 3 x0 1) fun v35 s36 _ =>
 (cnd
 (cnd
 (Prog.ret (Value.bool Bool.true))
 (Prog.seg (loadT En 9 x0 0) fun v37 s38 _ =>
 (gdL 2047 (writesOf s38) s38 [⟨4, writesOf s36, s36⟩]
 (cnd
 (Prog.seg (loadT En 3 x0 1) fun v39 s40 _ =>
 (gdL 61567 (writesOf s40) s40 [⟨11, writesOf s38, s38⟩, ⟨4, writesOf s36, s36⟩]
 (cnd
 (cnd
 (cnd
 (cnd
 (Prog.ret (Value.bool Bool.true))
 (Prog.seg (loadT En 23 x0 2) fun v41 s42 _ =>
 (cnd
 (Prog.seg (loadT En 23 x0 2) fun v43 s44 _ =>
 (gdL 112 (writesOf s44) s44 [⟨3, writesOf s42, s42⟩]
 (cnd
 (Prog.seg (builtinA En Builtin.len (23 :: []) ((Value.slice (Option.some (Addr.mk (sBlk v43) (sOff v43) Option.none)) (sLen v43) (sCap v43)) :: [])) fun v45 s46 _ =>
 (gdL 240 (writesOf s46) s46 [⟨7, writesOf s44, s44⟩, ⟨3, writesOf s42, s42⟩]
 (cnd
 (cnd
 (cnd
 (Prog.seg (loadT En 34 (sBlk v41) ((sOff v41) + ((Int.toNat (IntKind.wrap IntKind.i64 ((intOf v45) + (-1 : Int)))) * 8))) fun v47 s48 _ =>
 (gdL 2047 (writesOf s48) s48 [⟨8, writesOf s46, s46⟩, ⟨7, writesOf s44, s44⟩, ⟨3, writesOf s42, s42⟩]
 (cnd
 (Prog.seg (Prog.newH (Hdr.mk 8 34 Bool.false Bool.true Bool.true 0 Bool.false Bool.false []) ((Value.int IntKind.i64 (0 : Int)) :: ((Value.int IntKind.i64 (0 : Int)) :: ((Value.int IntKind.i64 (0 : Int)) :: ((Value.string (mkStr [])) :: ((Value.int IntKind.i64 (0 : Int)) :: ((Value.slice Option.none 0 0) :: ((Value.slice Option.none 0 0) :: ((Value.slice Option.none 0 0) :: [])))))))) (fun z49 => (Prog.ret (itP z49)))) fun v50 s51 _ =>
 (gdL 0 (writesOf s51) s51 [⟨11, writesOf s48, s48⟩, ⟨8, writesOf s46, s46⟩, ⟨7, writesOf s44, s44⟩, ⟨3, writesOf s42, s42⟩]
 (cnd
 (Prog.seg (storeT En 34 (blkOf v50) (offOf v50) (Value.agg ⟨((Value.int IntKind.i64 (intOf (at_ (aggOf v47) 0))) :: ((Value.int IntKind.i64 (intOf (at_ (aggOf v47) 1))) :: ((Value.int IntKind.i64 (intOf (at_ (aggOf v47) 2))) :: ((Value.string (strOf (at_ (aggOf v47) 3))) :: ((Value.int IntKind.i64 (intOf (at_ (aggOf v47) 4))) :: ((at_ (aggOf v47) 5) :: ((at_ (aggOf v47) 6) :: ((at_ (aggOf v47) 7) :: []))))))))⟩)) fun v52 s53 _ =>
 (gdL 8191 (writesOf s53) s53 [⟨12, writesOf s51, s51⟩, ⟨11, writesOf s48, s48⟩, ⟨8, writesOf s46, s46⟩, ⟨7, writesOf s44, s44⟩, ⟨3, writesOf s42, s42⟩]
 (callP (fun v54 =>
 (cnd
 (cnd
 (cnd
 (Prog.ret (Value.bool Bool.true))
 (callP (fun v55 =>
 (cnd
 (cnd
 (callP (fun v56 =>
 (cnd
 (cnd
 (callP (fun v57 =>
 (cnd
 (cnd
 (callP (fun v58 =>
 (cnd
 (Prog.ret (Value.bool (Bool.not (beqB (Array.toList (ByteArray.data (strOf v58))) ((125 : UInt8) :: [])))))
 Prog.fail
 (okK Kd.str v58)))
 (loadT En 9 (blkOf v50) ((offOf v50) + 3)))
 (Prog.ret (Value.bool Bool.false))
 (Bool.not (beqB (Array.toList (ByteArray.data (strOf v57))) ((93 : UInt8) :: []))))
 Prog.fail
 (okK Kd.str v57)))
 (loadT En 9 (blkOf v50) ((offOf v50) + 3)))
 (Prog.ret (Value.bool Bool.false))
 (Bool.not (beqB (Array.toList (ByteArray.data (strOf v56))) ((41 : UInt8) :: []))))
 Prog.fail
 (okK Kd.str v56)))
 (loadT En 9 (blkOf v50) ((offOf v50) + 3)))
 (Prog.ret (Value.bool Bool.false))
 (decide ((intOf v55) = (6 : Int))))
 Prog.fail
 (okK (Kd.int IntKind.i64) v55)))
 (loadT En 3 (blkOf v50) ((offOf v50) + 0)))
 (decide ((intOf v54) = (4 : Int))))
 (cnd
 (Prog.ret (Value.bool Bool.true))
 (callP (fun v59 =>
 (cnd
 (cnd
 (callP (fun v60 =>
 (cnd
 (cnd
 (callP (fun v61 =>
 (cnd
 (cnd
 (callP (fun v62 =>
 (cnd
 (Prog.ret (Value.bool (Bool.not (beqB (Array.toList (ByteArray.data (strOf v62))) ((125 : UInt8) :: [])))))
 Prog.fail
 (okK Kd.str v62)))
 (loadT En 9 (blkOf v50) ((offOf v50) + 3)))
 (Prog.ret (Value.bool Bool.false))
 (Bool.not (beqB (Array.toList (ByteArray.data (strOf v61))) ((93 : UInt8) :: []))))
 Prog.fail
 (okK Kd.str v61)))
 (loadT En 9 (blkOf v50) ((offOf v50) + 3)))
 (Prog.ret (Value.bool Bool.false))
 (Bool.not (beqB (Array.toList (ByteArray.data (strOf v60))) ((41 : UInt8) :: []))))
 Prog.fail
 (okK Kd.str v60)))
 (loadT En 9 (blkOf v50) ((offOf v50) + 3)))
 (Prog.ret (Value.bool Bool.false))
 (decide ((intOf v59) = (6 : Int))))
 Prog.fail
 (okK (Kd.int IntKind.i64) v59)))
 (loadT En 3 (blkOf v50) ((offOf v50) + 0)))
 (decide ((intOf v54) = (5 : Int))))
 (decide ((intOf v54) = (4 : Int))))
 Prog.fail
 (okK (Kd.int IntKind.i64) v54)))
 (loadT En 3 (blkOf v50) ((offOf v50) + 0)))))
 Prog.fail
 (isPt v50))))
 Prog.fail
 ((isAggV v47) && (okKs ((Kd.int IntKind.i64) :: ((Kd.int IntKind.i64) :: ((Kd.int IntKind.i64) :: (Kd.str :: ((Kd.int IntKind.i64) :: (Kd.raw :: (Kd.raw :: (Kd.raw :: [])))))))) (aggOf v47))))))
 Prog.fail
 ((Nat.ble (Nat.succ (Int.toNat (IntKind.wrap IntKind.i64 ((intOf v45) + (-1 : Int))))) (sLen v41)) && Bool.true))
 Prog.fail
 (decide ((0 : Int) ≤ (IntKind.wrap IntKind.i64 ((intOf v45) + (-1 : Int))))))
 Prog.fail
 (okK (Kd.int IntKind.i64) v45))))
 Prog.fail
 (isSl v43))))
 Prog.fail
 (isSl v41)))
 (decide ((Int.ofNat (byteAt (strOf v37) (Int.toNat (IntKind.wrap IntKind.i64 ((intOf v39) + (-1 : Int)))))) = (32 : Int))))
 Prog.fail
 (Nat.ble (Nat.succ (Int.toNat (IntKind.wrap IntKind.i64 ((intOf v39) + (-1 : Int))))) (List.length (Array.toList (ByteArray.data (strOf v37))))))
 Prog.fail
 (decide ((0 : Int) ≤ (IntKind.wrap IntKind.i64 ((intOf v39) + (-1 : Int))))))
 Prog.fail
 (okK (Kd.int IntKind.i64) v39))))
 Prog.fail
 (okK Kd.str v37))))
 (decide ((intOf v35) = (0 : Int))))
 Prog.fail
 (okK (Kd.int IntKind.i64) v35)))
 (Bool.not (boolOf v34)))
 Prog.fail
 (okK Kd.bool v34)))
 Prog.fail
 (okK (Kd.int IntKind.u8) v33)))
 (Bool.not (decide ((intOf v32) = (45 : Int)))))
 Prog.fail
 (okK (Kd.int IntKind.u8) v32))) := by kernel_rfl
end Go.Proofs.YtmjbmbmnnephjaaGreatDoor
/- What comes of the points of a function: printed by the tool. -/
namespace Go.Proofs.YtmjbmbmnnephjaaGreatDoor
open Go Go.Ev Go.Proofs
set_option maxRecDepth 8000
set_option linter.unusedVariables false
noncomputable def p62_6 (f : Nat) (x0 : Nat) (x2 : Int) (x3 : ByteArray) (x4 : ByteArray) (x6 : Nat) (x6o : Nat) (x40 : Int) (x41 : Int) : Prog := runP En f 62 (tmL 142 [(0, (Value.pointer (Option.some (Addr.mk x0 0 Option.none)))), (2, (Value.int IntKind.i64 x2)), (3, (Value.string x3)), (4, (Value.string x4)), (6, (Value.pointer (Option.some (Addr.mk x6 x6o Option.none)))), (40, (Value.int IntKind.i64 x40)), (41, (Value.int IntKind.i64 x41))]) [.code (cL (cI (cI (cR (cL (cR (cL (cR (cR (cL (cR (cR (cB 62))))))))))))), .code (cR (cI (cI (cR (cL (cR (cL (cR (cR (cL (cR (cR (cB 62))))))))))))), .inLoop (cI (cI (cR (cL (cR (cL (cR (cR (cL (cR (cR (cB 62)))))))))))), .inBlock 0, .code (cR (cR (cL (cR (cR (cL (cR (cR (cB 62))))))))), .code (cR (cR (cR (cB 62))))] [] none
noncomputable def p62_15 (f : Nat) (x0 : Nat) (x2 : Int) (x8 : Nat) (x8o : Nat) : Prog := runP En f 62 (tmL 142 [(0, (Value.pointer (Option.some (Addr.mk x0 0 Option.none)))), (2, (Value.int IntKind.i64 x2)), (8, (Value.pointer (Option.some (Addr.mk x8 x8o Option.none))))]) [.code (cL (cI (cI (cI (cL (cR (cR (cR (cR (cB 62)))))))))), .code (cR (cI (cI (cI (cL (cR (cR (cR (cR (cB 62)))))))))), .inBlock 3, .inLoop (cI (cI (cL (cR (cR (cR (cR (cB 62)))))))), .inBlock 2, .code (cR (cR (cR (cR (cR (cB 62))))))] [] none
theorem p62_6_eq (f : Nat) (x0 : Nat) (x2 : Int) (x3 : ByteArray) (x4 : ByteArray) (x6 : Nat) (x6o : Nat) (x40 : Int) (x41 : Int) : p62_6 (f + 1) x0 x2 x3 x4 x6 x6o x40 x41 =
 (cnd
 (cnd
 (Prog.call (callF En (runP En f) 35 [(Value.pointer (Option.some (Addr.mk x0 0 Option.none))), (Value.int IntKind.i64 (6 : Int)), (Value.int IntKind.i64 (IntKind.wrap IntKind.i64 (x2 + x41)))]) fun v17 =>
 (cnd
 (Prog.ret (Value.tuple ⟨[]⟩))
 Prog.fail
 ((isTupV v17) && (okNs [] (tupOf v17)))))
 (Prog.seg (loadT En 28 x6 (x6o + 1)) fun v18 s19 _ =>
 (cnd
 (cnd
 (Prog.seg (buildSliceA En 28 1 ((Prod.mk 0 (Value.int IntKind.i64 (IntKind.wrap IntKind.i64 (IntKind.wrap IntKind.u8 (Int.subNatNat (byteAt x4 (Int.toNat x41)) 48))))) :: [])) fun v20 s21 _ =>
 (gdL 124 (writesOf s21) s21 [⟨1, writesOf s19, s19⟩]
 (Prog.seg (builtinA En Builtin.append (28 :: (28 :: [])) (v18 :: (v20 :: []))) fun v22 s23 _ =>
 (gdL 255 (writesOf s23) s23 [⟨7, writesOf s21, s21⟩, ⟨1, writesOf s19, s19⟩]
 (Prog.seg (storeT En 28 x6 (x6o + 1) v22) fun v24 s25 _ =>
 (gdL 1023 (writesOf s25) s25 [⟨8, writesOf s23, s23⟩, ⟨7, writesOf s21, s21⟩, ⟨1, writesOf s19, s19⟩]
 (p62_6 f x0 x2 x3 x4 x6 x6o x40 (IntKind.wrap IntKind.i64 (x41 + (1 : Int))))))))))
 Prog.fail
 (Nat.ble (Nat.succ (Int.toNat x41)) (List.length (Array.toList (ByteArray.data x4)))))
 Prog.fail
 (decide ((0 : Int) ≤ x41))))
 (decide (x41 ≥ (65536 : Int))))
 (callP (fun v26 =>
 (cnd
 (callP (fun v27 =>
 (callP (fun v28 =>
 (cnd
 (Prog.call (callF En (runP En f) 119 [(Value.pointer (Option.some (Addr.mk x0 0 Option.none))), (Value.int IntKind.i64 x2), (Value.agg ⟨((Value.int IntKind.i64 (intOf (at_ (aggOf v28) 0))) :: ((at_ (aggOf v28) 1) :: ((at_ (aggOf v28) 2) :: ((at_ (aggOf v28) 3) :: []))))⟩)]) fun v29 =>
 (cnd
 (Prog.ret (Value.tuple ⟨[]⟩))
 Prog.fail
 ((isTupV v29) && (okNs [] (tupOf v29)))))
 Prog.fail
 ((isAggV v28) && (okKs ((Kd.int IntKind.i64) :: (Kd.raw :: (Kd.raw :: (Kd.raw :: [])))) (aggOf v28)))))
 (loadT En 32 x6 x6o)))
 (storeT En 3 x0 1 (Value.int IntKind.i64 (IntKind.wrap IntKind.i64 ((intOf v26) + (Int.ofNat (List.length (Array.toList (ByteArray.data x3)))))))))
 Prog.fail
 (okK (Kd.int IntKind.i64) v26)))
 (loadT En 3 x0 1))
 (decide (x41 < x40))) := by kernel_rfl
theorem p62_15_eq (f : Nat) (x0 : Nat) (x2 : Int) (x8 : Nat) (x8o : Nat) : p62_15 (f + 1) x0 x2 x8 x8o =
 (callP (fun v30 =>
 (cnd
 (Prog.call (callF En (runP En f) 120 [(Value.pointer (Option.some (Addr.mk x0 0 Option.none)))]) fun v31 =>
 (cnd
 (Prog.call (callF En (runP En f) 121 [(Value.string (strOf v31))]) fun v32 =>
 (cnd
 (cnd
 (Prog.call (callF En (runP En f) 35 [(Value.pointer (Option.some (Addr.mk x0 0 Option.none))), (Value.int IntKind.i64 (141 : Int)), (Value.int IntKind.i64 (intOf v30))]) fun v33 =>
 (cnd
 (Prog.ret (Value.tuple ⟨[]⟩))
 Prog.fail
 ((isTupV v33) && (okNs [] (tupOf v33)))))
 (callP (fun v34 =>
 (callP (fun v35 =>
 (cnd
 (cnd
 (callP (fun v36 =>
 (cnd
 (cnd
 (Prog.call (callF En (runP En f) 35 [(Value.pointer (Option.some (Addr.mk x0 0 Option.none))), (Value.int IntKind.i64 (143 : Int)), (Value.int IntKind.i64 (intOf v30))]) fun v37 =>
 (cnd
 (Prog.ret (Value.tuple ⟨[]⟩))
 Prog.fail
 ((isTupV v37) && (okNs [] (tupOf v37)))))
 (callP (fun v38 =>
 (callP (fun v39 =>
 (cnd
 (cnd
 (Prog.call (callF En (runP En f) 35 [(Value.pointer (Option.some (Addr.mk x0 0 Option.none))), (Value.int IntKind.i64 (6 : Int)), (Value.int IntKind.i64 (intOf v30))]) fun v40 =>
 (cnd
 (Prog.ret (Value.tuple ⟨[]⟩))
 Prog.fail
 ((isTupV v40) && (okNs [] (tupOf v40)))))
 (callP (fun v41 =>
 (callP (fun v42 =>
 (callP (fun v43 =>
 (callP (fun v44 =>
 (callP (fun v45 =>
 (Prog.call (callF En (runP En f) 122 [(Value.pointer (Option.some (Addr.mk x0 0 Option.none)))]) fun v46 =>
 (cnd
 (cnd
 (callP (fun v47 =>
 (cnd
 (Prog.call (callF En (runP En f) 119 [(Value.pointer (Option.some (Addr.mk x0 0 Option.none))), (Value.int IntKind.i64 x2), (Value.agg ⟨((Value.int IntKind.i64 (intOf (at_ (aggOf v47) 0))) :: ((at_ (aggOf v47) 1) :: ((at_ (aggOf v47) 2) :: ((at_ (aggOf v47) 3) :: []))))⟩)]) fun v48 =>
 (cnd
 (Prog.ret (Value.tuple ⟨[]⟩))
 Prog.fail
 ((isTupV v48) && (okNs [] (tupOf v48)))))
 Prog.fail
 ((isAggV v47) && (okKs ((Kd.int IntKind.i64) :: (Kd.raw :: (Kd.raw :: (Kd.raw :: [])))) (aggOf v47)))))
 (loadT En 32 x8 x8o))
 (p62_15 f x0 x2 x8 x8o)
 (Bool.not (boolOf v46)))
 Prog.fail
 (okK Kd.bool v46))))
 (storeT En 28 x8 (x8o + 1) v44)))
 (builtinA En Builtin.append (28 :: (28 :: [])) (v43 :: ((xlstV ((Value.int IntKind.i64 (intOf (at_ (tupOf v32) 1))) :: [])) :: [])))))
 (loadT En 28 x8 (x8o + 1))))
 (storeT En 3 x8 (x8o + 0) (Value.int IntKind.i64 (intOf (at_ (tupOf v32) 0))))))
 (storeT En 3 x0 1 (Value.int IntKind.i64 (IntKind.wrap IntKind.i64 ((intOf v30) + (Int.ofNat (List.length (Array.toList (ByteArray.data (strOf v31))))))))))
 (decide ((intOf v39) ≥ (65536 : Int))))
 Prog.fail
 (okK (Kd.int IntKind.i64) v39)))
 (builtinA En Builtin.len (28 :: []) (v38 :: []))))
 (loadT En 28 x8 (x8o + 1)))
 (Bool.not (decide ((intOf (at_ (tupOf v32) 0)) = (intOf v36)))))
 Prog.fail
 (okK (Kd.int IntKind.i64) v36)))
 (loadT En 3 x8 (x8o + 0)))
 (callP (fun v49 =>
 (callP (fun v50 =>
 (cnd
 (cnd
 (Prog.call (callF En (runP En f) 35 [(Value.pointer (Option.some (Addr.mk x0 0 Option.none))), (Value.int IntKind.i64 (6 : Int)), (Value.int IntKind.i64 (intOf v30))]) fun v51 =>
 (cnd
 (Prog.ret (Value.tuple ⟨[]⟩))
 Prog.fail
 ((isTupV v51) && (okNs [] (tupOf v51)))))
 (callP (fun v52 =>
 (callP (fun v53 =>
 (callP (fun v54 =>
 (callP (fun v55 =>
 (callP (fun v56 =>
 (Prog.call (callF En (runP En f) 122 [(Value.pointer (Option.some (Addr.mk x0 0 Option.none)))]) fun v57 =>
 (cnd
 (cnd
 (callP (fun v58 =>
 (cnd
 (Prog.call (callF En (runP En f) 119 [(Value.pointer (Option.some (Addr.mk x0 0 Option.none))), (Value.int IntKind.i64 x2), (Value.agg ⟨((Value.int IntKind.i64 (intOf (at_ (aggOf v58) 0))) :: ((at_ (aggOf v58) 1) :: ((at_ (aggOf v58) 2) :: ((at_ (aggOf v58) 3) :: []))))⟩)]) fun v59 =>
 (cnd
 (Prog.ret (Value.tuple ⟨[]⟩))
 Prog.fail
 ((isTupV v59) && (okNs [] (tupOf v59)))))
 Prog.fail
 ((isAggV v58) && (okKs ((Kd.int IntKind.i64) :: (Kd.raw :: (Kd.raw :: (Kd.raw :: [])))) (aggOf v58)))))
 (loadT En 32 x8 x8o))
 (p62_15 f x0 x2 x8 x8o)
 (Bool.not (boolOf v57)))
 Prog.fail
 (okK Kd.bool v57))))
 (storeT En 28 x8 (x8o + 1) v55)))
 (builtinA En Builtin.append (28 :: (28 :: [])) (v54 :: ((xlstV ((Value.int IntKind.i64 (intOf (at_ (tupOf v32) 1))) :: [])) :: [])))))
 (loadT En 28 x8 (x8o + 1))))
 (storeT En 3 x8 (x8o + 0) (Value.int IntKind.i64 (intOf (at_ (tupOf v32) 0))))))
 (storeT En 3 x0 1 (Value.int IntKind.i64 (IntKind.wrap IntKind.i64 ((intOf v30) + (Int.ofNat (List.length (Array.toList (ByteArray.data (strOf v31))))))))))
 (decide ((intOf v50) ≥ (65536 : Int))))
 Prog.fail
 (okK (Kd.int IntKind.i64) v50)))
 (builtinA En Builtin.len (28 :: []) (v49 :: []))))
 (loadT En 28 x8 (x8o + 1)))
 (decide ((intOf v35) > (0 : Int))))
 Prog.fail
 (okK (Kd.int IntKind.i64) v35)))
 (builtinA En Builtin.len (28 :: []) (v34 :: []))))
 (loadT En 28 x8 (x8o + 1)))
 (Bool.not (boolOf (at_ (tupOf v32) 2))))
 Prog.fail
 ((isTupV v32) && (okNs ((Nm.one (Kd.int IntKind.i64)) :: ((Nm.one (Kd.int IntKind.i64)) :: ((Nm.one Kd.bool) :: []))) (tupOf v32)))))
 Prog.fail
 (okK Kd.str v31)))
 Prog.fail
 (okK (Kd.int IntKind.i64) v30)))
 (loadT En 3 x0 1)) := by kernel_rfl
theorem f62_eq (f : Nat) (x0 : Nat) : callF En (runP En (f + 1)) 62 [(Value.pointer (Option.some (Addr.mk x0 0 Option.none)))] =
 (callP (fun v60 =>
 (cnd
 (Prog.call (callF En (runP En f) 32 [(Value.pointer (Option.some (Addr.mk x0 0 Option.none))), (Value.func (Fn.func 116) ⟨[]⟩ ⟨[]⟩)]) fun v61 =>
 (cnd
 (Prog.call (callF En (runP En f) 117 [(Value.string (strOf v61)), (Value.string (mkStr [98]))]) fun v62 =>
 (cnd
 (cnd
 (cnd
 (Prog.call (callF En (runP En f) 118 [(Value.string (strOf (at_ (tupOf v62) 0))), (Value.string (mkStr [48, 49]))]) fun v63 =>
 (cnd
 (cnd
 (gd Bool.true
 (callP (fun v65 =>
 (cnd
 (callP (fun v66 =>
 (p62_6 f x0 (intOf v60) (strOf v61) (strOf (at_ (tupOf v62) 0)) (blkOf v65) (offOf v65) (Int.ofNat (List.length (Array.toList (ByteArray.data (strOf (at_ (tupOf v62) 0)))))) (0 : Int)))
 (storeT En 32 (blkOf v65) (offOf v65) (Value.agg ⟨((Value.int IntKind.i64 (1 : Int)) :: ((Value.slice Option.none 0 0) :: ((Value.slice Option.none 0 0) :: ((Value.slice Option.none 0 0) :: []))))⟩)))
 Prog.fail
 (isPt v65)))
 (Prog.newH (Hdr.mk 4 32 Bool.false Bool.true Bool.true 0 Bool.false Bool.false []) ((Value.int IntKind.i64 (0 : Int)) :: ((Value.slice Option.none 0 0) :: ((Value.slice Option.none 0 0) :: ((Value.slice Option.none 0 0) :: [])))) (fun z64 => (Prog.ret (itP z64))))))
 (gd Bool.true
 (callP (fun v68 =>
 (cnd
 (callP (fun v69 =>
 (p62_15 f x0 (intOf v60) (blkOf v68) (offOf v68)))
 (storeT En 32 (blkOf v68) (offOf v68) (Value.agg ⟨((Value.int IntKind.i64 (0 : Int)) :: ((Value.slice Option.none 0 0) :: ((Value.slice Option.none 0 0) :: ((Value.slice Option.none 0 0) :: []))))⟩)))
 Prog.fail
 (isPt v68)))
 (Prog.newH (Hdr.mk 4 32 Bool.false Bool.true Bool.true 0 Bool.false Bool.false []) ((Value.int IntKind.i64 (0 : Int)) :: ((Value.slice Option.none 0 0) :: ((Value.slice Option.none 0 0) :: ((Value.slice Option.none 0 0) :: [])))) (fun z67 => (Prog.ret (itP z67))))))
 (beqB (Array.toList (ByteArray.data (strOf v63))) []))
 Prog.fail
 (okK Kd.str v63)))
 (gd Bool.true
 (callP (fun v71 =>
 (cnd
 (callP (fun v72 =>
 (p62_15 f x0 (intOf v60) (blkOf v71) (offOf v71)))
 (storeT En 32 (blkOf v71) (offOf v71) (Value.agg ⟨((Value.int IntKind.i64 (0 : Int)) :: ((Value.slice Option.none 0 0) :: ((Value.slice Option.none 0 0) :: ((Value.slice Option.none 0 0) :: []))))⟩)))
 Prog.fail
 (isPt v71)))
 (Prog.newH (Hdr.mk 4 32 Bool.false Bool.true Bool.true 0 Bool.false Bool.false []) ((Value.int IntKind.i64 (0 : Int)) :: ((Value.slice Option.none 0 0) :: ((Value.slice Option.none 0 0) :: ((Value.slice Option.none 0 0) :: [])))) (fun z70 => (Prog.ret (itP z70))))))
 (Bool.not (beqB (Array.toList (ByteArray.data (strOf (at_ (tupOf v62) 0)))) [])))
 (gd Bool.true
 (callP (fun v74 =>
 (cnd
 (callP (fun v75 =>
 (p62_15 f x0 (intOf v60) (blkOf v74) (offOf v74)))
 (storeT En 32 (blkOf v74) (offOf v74) (Value.agg ⟨((Value.int IntKind.i64 (0 : Int)) :: ((Value.slice Option.none 0 0) :: ((Value.slice Option.none 0 0) :: ((Value.slice Option.none 0 0) :: []))))⟩)))
 Prog.fail
 (isPt v74)))
 (Prog.newH (Hdr.mk 4 32 Bool.false Bool.true Bool.true 0 Bool.false Bool.false []) ((Value.int IntKind.i64 (0 : Int)) :: ((Value.slice Option.none 0 0) :: ((Value.slice Option.none 0 0) :: ((Value.slice Option.none 0 0) :: [])))) (fun z73 => (Prog.ret (itP z73))))))
 (boolOf (at_ (tupOf v62) 1)))
 Prog.fail
 ((isTupV v62) && (okNs ((Nm.one Kd.str) :: ((Nm.one Kd.bool) :: [])) (tupOf v62)))))
 Prog.fail
 (okK Kd.str v61)))
 Prog.fail
 (okK (Kd.int IntKind.i64) v60)))
 (loadT En 3 x0 1)) := by kernel_rfl
end Go.Proofs.YtmjbmbmnnephjaaGreatDoor
/- What comes of the points of a function: printed by the tool. -/
namespace Go.Proofs.YtmjbmbmnnephjaaGreatDoor
open Go Go.Ev Go.Proofs
set_option maxRecDepth 8000
set_option linter.unusedVariables false
theorem f63_eq (f : Nat) (x0 : Nat) (x1 : Int) (x2 : Int) (x3 : ByteArray) (x4_0 : Int) (x4_1 : List Value) (x4_2 : List Value) (x4_3 : List Value) : callF En (runP En (f + 1)) 63 [(Value.pointer (Option.some (Addr.mk x0 0 Option.none))), (Value.int IntKind.i64 x1), (Value.int IntKind.i64 x2), (Value.string x3), (Value.agg ⟨((Value.int IntKind.i64 x4_0) :: ((lstV x4_1) :: ((lstV x4_2) :: ((lstV x4_3) :: []))))⟩)] =
 (gd Bool.true
 (callP (fun v16 =>
 (cnd
 (Prog.seg (loadT En 23 x0 2) fun v17 s18 _ =>
 (Prog.seg (loadT En 3 x0 1) fun v19 s20 _ =>
 (gdL 1920 (writesOf s20) s20 [⟨4, writesOf s18, s18⟩]
 (cnd
 (Prog.seg (loadT En 32 (blkOf v16) (offOf v16)) fun v21 s22 _ =>
 (gdL 0 (writesOf s22) s22 [⟨11, writesOf s20, s20⟩, ⟨4, writesOf s18, s18⟩]
 (cnd
 (gd Bool.true
 (Prog.seg (buildSliceA En 23 1 ((Prod.mk 0 (Value.agg ⟨((Value.int IntKind.i64 x1) :: ((Value.int IntKind.i64 x2) :: ((Value.int IntKind.i64 (intOf v19)) :: ((Value.string x3) :: ((Value.int IntKind.i64 (intOf (at_ (aggOf v21) 0))) :: ((at_ (aggOf v21) 1) :: ((at_ (aggOf v21) 2) :: ((at_ (aggOf v21) 3) :: []))))))))⟩)) :: [])) fun v23 s24 _ =>
 (gdL 32736 (writesOf s24) s24 [⟨13, writesOf s22, s22⟩, ⟨11, writesOf s20, s20⟩, ⟨4, writesOf s18, s18⟩]
 (Prog.seg (builtinA En Builtin.append (23 :: (23 :: [])) (v17 :: (v23 :: []))) fun v25 s26 _ =>
 (gdL 65534 (writesOf s26) s26 [⟨15, writesOf s24, s24⟩, ⟨13, writesOf s22, s22⟩, ⟨11, writesOf s20, s20⟩, ⟨4, writesOf s18, s18⟩]
 (Prog.seg (storeT En 23 x0 2 v25) fun v27 s28 _ =>
 (gdL 524287 (writesOf s28) s28 [⟨16, writesOf s26, s26⟩, ⟨15, writesOf s24, s24⟩, ⟨13, writesOf s22, s22⟩, ⟨11, writesOf s20, s20⟩, ⟨4, writesOf s18, s18⟩]
 (Prog.ret (Value.tuple ⟨[]⟩)))))))))
 Prog.fail
 ((isAggV v21) && (okKs ((Kd.int IntKind.i64) :: (Kd.raw :: (Kd.raw :: (Kd.raw :: [])))) (aggOf v21))))))
 Prog.fail
 (okK (Kd.int IntKind.i64) v19)))))
 Prog.fail
 (isPt v16)))
 (Prog.newH (Hdr.mk 4 32 Bool.false Bool.true Bool.true 0 Bool.false Bool.false []) ((Value.int IntKind.i64 x4_0) :: ((lstV x4_1) :: ((lstV x4_2) :: ((lstV x4_3) :: [])))) (fun z15 => (Prog.ret (itP z15)))))) := by kernel_rfl
end Go.Proofs.YtmjbmbmnnephjaaGreatDoor
/- What comes of the points of a function: printed by the tool. -/
namespace Go.Proofs.YtmjbmbmnnephjaaGreatDoor
open Go Go.Ev Go.Proofs
set_option maxRecDepth 8000
set_option linter.unusedVariables false
noncomputable def p64_2 (f : Nat) (x0 : Nat) (x2 : Int) (x3 : Nat) (x3o : Nat) : Prog := runP En f 64 (tmL 119 [(0, (Value.pointer (Option.some (Addr.mk x0 0 Option.none)))), (2, (Value.int IntKind.i64 x2)), (3, (Value.pointer (Option.some (Addr.mk x3 x3o Option.none))))]) [.code (cL (cL (cI (cI (cL (cR (cR (cB 64)))))))), .code (cR (cL (cI (cI (cL (cR (cR (cB 64)))))))), .code (cR (cI (cI (cL (cR (cR (cB 64))))))), .inLoop (cI (cI (cL (cR (cR (cB 64)))))), .inBlock 0, .code (cR (cR (cR (cB 64))))] [] none
noncomputable def p64_14 (f : Nat) (x0 : Nat) (x2 : Int) (x3 : Nat) (x3o : Nat) (x4 : Int) (x5 : ByteArray) (x6 : Int) : Prog := runP En f 64 (tmL 119 [(0, (Value.pointer (Option.some (Addr.mk x0 0 Option.none)))), (2, (Value.int IntKind.i64 x2)), (3, (Value.pointer (Option.some (Addr.mk x3 x3o Option.none)))), (4, (Value.int IntKind.i64 x4)), (5, (Value.string x5)), (6, (Value.int IntKind.i64 x6))]) [.code (cL (cI (cL (cR (cR (cR (cR (cI (cR (cI (cI (cL (cR (cR (cB 64))))))))))))))), .code (cR (cI (cL (cR (cR (cR (cR (cI (cR (cI (cI (cL (cR (cR (cB 64))))))))))))))), .inBlock 3, .code (cR (cR (cR (cR (cR (cI (cR (cI (cI (cL (cR (cR (cB 64))))))))))))), .inBlock 1, .inLoop (cI (cI (cL (cR (cR (cB 64)))))), .inBlock 0, .code (cR (cR (cR (cB 64))))] [] none
noncomputable def p64_19 (f : Nat) (x0 : Nat) (x2 : Int) (x3 : Nat) (x3o : Nat) (x5 : ByteArray) (x6 : Int) : Prog := runP En f 64 (tmL 119 [(0, (Value.pointer (Option.some (Addr.mk x0 0 Option.none)))), (2, (Value.int IntKind.i64 x2)), (3, (Value.pointer (Option.some (Addr.mk x3 x3o Option.none)))), (5, (Value.string x5)), (6, (Value.int IntKind.i64 x6))]) [.code (cL (cR (cR (cR (cR (cR (cI (cR (cI (cI (cL (cR (cR (cB 64)))))))))))))), .code (cR (cR (cR (cR (cR (cR (cI (cR (cI (cI (cL (cR (cR (cB 64)))))))))))))), .inBlock 1, .inLoop (cI (cI (cL (cR (cR (cB 64)))))), .inBlock 0, .code (cR (cR (cR (cB 64))))] [] none
theorem p64_2_eq (f : Nat) (x0 : Nat) (x2 : Int) (x3 : Nat) (x3o : Nat) : p64_2 (f + 1) x0 x2 x3 x3o =
 (callP (fun v33 =>
 (cnd
 (cnd
 (Prog.call (callF En (runP En f) 59 [(Value.pointer (Option.some (Addr.mk x0 0 Option.none))), (Value.int IntKind.i64 (0 : Int))]) fun v34 =>
 (cnd
 (cnd
 (callP (fun v35 =>
 (cnd
 (callP (fun v36 =>
 (callP (fun v37 =>
 (cnd
 (cnd
 (Prog.call (callF En (runP En f) 35 [(Value.pointer (Option.some (Addr.mk x0 0 Option.none))), (Value.int IntKind.i64 (6 : Int)), (Value.int IntKind.i64 (intOf v35))]) fun v38 =>
 (cnd
 (Prog.ret (Value.tuple ⟨[]⟩))
 Prog.fail
 ((isTupV v38) && (okNs [] (tupOf v38)))))
 (Prog.call (callF En (runP En f) 59 [(Value.pointer (Option.some (Addr.mk x0 0 Option.none))), (Value.int IntKind.i64 (1 : Int))]) fun v39 =>
 (cnd
 (cnd
 (Prog.call (callF En (runP En f) 65 [(Value.pointer (Option.some (Addr.mk x0 0 Option.none))), (Value.int IntKind.i64 (1 : Int))]) fun v40 =>
 (cnd
 (p64_14 f x0 x2 x3 x3o (intOf v35) (strOf (at_ (tupOf v40) 0)) (intOf (at_ (tupOf v40) 1)))
 Prog.fail
 ((isTupV v40) && (okNs ((Nm.one Kd.str) :: ((Nm.one (Kd.int IntKind.i64)) :: [])) (tupOf v40)))))
 (Prog.call (callF En (runP En f) 59 [(Value.pointer (Option.some (Addr.mk x0 0 Option.none))), (Value.int IntKind.i64 (1 : Int))]) fun v41 =>
 (cnd
 (Prog.call (callF En (runP En f) 44 [(Value.int IntKind.u8 (intOf v41))]) fun v42 =>
 (cnd
 (cnd
 (callP (fun v43 =>
 (cnd
 (callP (fun v44 =>
 (Prog.call (callF En (runP En f) 32 [(Value.pointer (Option.some (Addr.mk x0 0 Option.none))), (Value.func (Fn.func 116) ⟨[]⟩ ⟨[]⟩)]) fun v45 =>
 (cnd
 (callP (fun v46 =>
 (cnd
 (callP (fun v47 =>
 (p64_14 f x0 x2 x3 x3o (intOf v35) (strOf v45) (Int.ofNat (List.length (Array.toList (ByteArray.data (strOf v45)))))))
 (storeT En 3 x0 1 (Value.int IntKind.i64 (IntKind.wrap IntKind.i64 ((intOf v46) + (-1 : Int))))))
 Prog.fail
 (okK (Kd.int IntKind.i64) v46)))
 (loadT En 3 x0 1))
 Prog.fail
 (okK Kd.str v45))))
 (storeT En 3 x0 1 (Value.int IntKind.i64 (IntKind.wrap IntKind.i64 ((intOf v43) + (1 : Int))))))
 Prog.fail
 (okK (Kd.int IntKind.i64) v43)))
 (loadT En 3 x0 1))
 (p64_14 f x0 x2 x3 x3o (intOf v35) (mkStr []) (0 : Int))
 (boolOf v42))
 Prog.fail
 (okK Kd.bool v42)))
 Prog.fail
 (okK (Kd.int IntKind.u8) v41)))
 (decide ((intOf v39) = (34 : Int))))
 Prog.fail
 (okK (Kd.int IntKind.u8) v39)))
 (decide ((intOf v37) ≥ (65536 : Int))))
 Prog.fail
 (okK (Kd.int IntKind.i64) v37)))
 (builtinA En Builtin.len (29 :: []) (v36 :: []))))
 (loadT En 29 x3 (x3o + 2)))
 Prog.fail
 (okK (Kd.int IntKind.i64) v35)))
 (loadT En 3 x0 1))
 (callP (fun v48 =>
 (cnd
 (Prog.call (callF En (runP En f) 119 [(Value.pointer (Option.some (Addr.mk x0 0 Option.none))), (Value.int IntKind.i64 x2), (Value.agg ⟨((Value.int IntKind.i64 (intOf (at_ (aggOf v48) 0))) :: ((at_ (aggOf v48) 1) :: ((at_ (aggOf v48) 2) :: ((at_ (aggOf v48) 3) :: []))))⟩)]) fun v49 =>
 (cnd
 (Prog.ret (Value.tuple ⟨[]⟩))
 Prog.fail
 ((isTupV v49) && (okNs [] (tupOf v49)))))
 Prog.fail
 ((isAggV v48) && (okKs ((Kd.int IntKind.i64) :: (Kd.raw :: (Kd.raw :: (Kd.raw :: [])))) (aggOf v48)))))
 (loadT En 32 x3 x3o))
 (decide ((intOf v34) = (96 : Int))))
 Prog.fail
 (okK (Kd.int IntKind.u8) v34)))
 (callP (fun v50 =>
 (cnd
 (Prog.call (callF En (runP En f) 119 [(Value.pointer (Option.some (Addr.mk x0 0 Option.none))), (Value.int IntKind.i64 x2), (Value.agg ⟨((Value.int IntKind.i64 (intOf (at_ (aggOf v50) 0))) :: ((at_ (aggOf v50) 1) :: ((at_ (aggOf v50) 2) :: ((at_ (aggOf v50) 3) :: []))))⟩)]) fun v51 =>
 (cnd
 (Prog.ret (Value.tuple ⟨[]⟩))
 Prog.fail
 ((isTupV v51) && (okNs [] (tupOf v51)))))
 Prog.fail
 ((isAggV v50) && (okKs ((Kd.int IntKind.i64) :: (Kd.raw :: (Kd.raw :: (Kd.raw :: [])))) (aggOf v50)))))
 (loadT En 32 x3 x3o))
 (decide ((intOf v33) = (0 : Int))))
 Prog.fail
 (okK (Kd.int IntKind.i64) v33)))
 (loadT En 24 x0 3)) := by kernel_rfl
theorem p64_14_eq (f : Nat) (x0 : Nat) (x2 : Int) (x3 : Nat) (x3o : Nat) (x4 : Int) (x5 : ByteArray) (x6 : Int) : p64_14 (f + 1) x0 x2 x3 x3o x4 x5 x6 =
 (callP (fun v52 =>
 (cnd
 (cnd
 (Prog.ret (Value.tuple ⟨[]⟩))
 (cnd
 (Prog.call (callF En (runP En f) 35 [(Value.pointer (Option.some (Addr.mk x0 0 Option.none))), (Value.int IntKind.i64 (1 : Int)), (Value.int IntKind.i64 x4)]) fun v53 =>
 (cnd
 (p64_19 f x0 x2 x3 x3o x5 x6)
 Prog.fail
 ((isTupV v53) && (okNs [] (tupOf v53)))))
 (Prog.call (callF En (runP En f) 66 [(Value.string x5), (Value.int IntKind.u8 (0 : Int))]) fun v54 =>
 (cnd
 (cnd
 (Prog.call (callF En (runP En f) 35 [(Value.pointer (Option.some (Addr.mk x0 0 Option.none))), (Value.int IntKind.i64 (140 : Int)), (Value.int IntKind.i64 x4)]) fun v55 =>
 (cnd
 (p64_19 f x0 x2 x3 x3o x5 x6)
 Prog.fail
 ((isTupV v55) && (okNs [] (tupOf v55)))))
 (p64_19 f x0 x2 x3 x3o x5 x6)
 (decide ((intOf v54) ≥ (0 : Int))))
 Prog.fail
 (okK (Kd.int IntKind.i64) v54)))
 (decide ((Int.ofNat (List.length (Array.toList (ByteArray.data x5)))) > (64 : Int))))
 (Bool.not (decide ((intOf v52) = (0 : Int)))))
 Prog.fail
 (okK (Kd.int IntKind.i64) v52)))
 (loadT En 24 x0 3)) := by kernel_rfl
theorem p64_19_eq (f : Nat) (x0 : Nat) (x2 : Int) (x3 : Nat) (x3o : Nat) (x5 : ByteArray) (x6 : Int) : p64_19 (f + 1) x0 x2 x3 x3o x5 x6 =
 (callP (fun v56 =>
 (cnd
 (callP (fun v57 =>
 (callP (fun v58 =>
 (callP (fun v59 =>
 (callP (fun v60 =>
 (p64_2 f x0 x2 x3 x3o))
 (storeT En 29 x3 (x3o + 2) v59)))
 (builtinA En Builtin.append (29 :: (29 :: [])) (v58 :: ((xlstV ((Value.string x5) :: [])) :: [])))))
 (loadT En 29 x3 (x3o + 2))))
 (storeT En 3 x0 1 (Value.int IntKind.i64 (IntKind.wrap IntKind.i64 ((intOf v56) + (IntKind.wrap IntKind.i64 ((1 : Int) + x6)))))))
 Prog.fail
 (okK (Kd.int IntKind.i64) v56)))
 (loadT En 3 x0 1)) := by kernel_rfl
theorem f64_eq (f : Nat) (x0 : Nat) : callF En (runP En (f + 1)) 64 [(Value.pointer (Option.some (Addr.mk x0 0 Option.none)))] =
 (callP (fun v61 =>
 (cnd
 (gd Bool.true
 (callP (fun v63 =>
 (cnd
 (callP (fun v64 =>
 (p64_2 f x0 (intOf v61) (blkOf v63) (offOf v63)))
 (storeT En 32 (blkOf v63) (offOf v63) (Value.agg ⟨((Value.int IntKind.i64 (3 : Int)) :: ((Value.slice Option.none 0 0) :: ((Value.slice Option.none 0 0) :: ((Value.slice Option.none 0 0) :: []))))⟩)))
 Prog.fail
 (isPt v63)))
 (Prog.newH (Hdr.mk 4 32 Bool.false Bool.true Bool.true 0 Bool.false Bool.false []) ((Value.int IntKind.i64 (0 : Int)) :: ((Value.slice Option.none 0 0) :: ((Value.slice Option.none 0 0) :: ((Value.slice Option.none 0 0) :: [])))) (fun z62 => (Prog.ret (itP z62))))))
 Prog.fail
 (okK (Kd.int IntKind.i64) v61)))
 (loadT En 3 x0 1)) := by kernel_rfl
end Go.Proofs.YtmjbmbmnnephjaaGreatDoor
/- What comes of the points of a function: printed by the tool. -/
namespace Go.Proofs.YtmjbmbmnnephjaaGreatDoor
open Go Go.Ev Go.Proofs
set_option maxRecDepth 8000
set_option linter.unusedVariables false
noncomputable def p65_7 (f : Nat) (x0 : Nat) (x6 : Int) : Prog := runP En f 65 (tmL 50 [(0, (Value.pointer (Option.some (Addr.mk x0 0 Option.none)))), (6, (Value.int IntKind.i64 x6))]) [.code (cL (cR (cR (cR (cR (cB 65)))))), .code (cR (cR (cR (cR (cR (cB 65))))))] [] none
theorem f65_eq (f : Nat) (x0 : Nat) (x1 : Int) : callF En (runP En (f + 1)) 65 [(Value.pointer (Option.some (Addr.mk x0 0 Option.none))), (Value.int IntKind.i64 x1)] =
 (callP (fun v7 =>
 (cnd
 (callP (fun v8 =>
 (cnd
 (cnd
 (cnd
 (Prog.call (callF En (runP En f) 66 [(Value.string (mkStr (List.take ((List.length (Array.toList (ByteArray.data (strOf v8)))) - (Int.toNat (IntKind.wrap IntKind.i64 ((IntKind.wrap IntKind.i64 ((intOf v7) + x1)) + (1 : Int))))) (List.drop (Int.toNat (IntKind.wrap IntKind.i64 ((IntKind.wrap IntKind.i64 ((intOf v7) + x1)) + (1 : Int)))) (Array.toList (ByteArray.data (strOf v8))))))), (Value.int IntKind.u8 (34 : Int))]) fun v9 =>
 (cnd
 (cnd
 (callP (fun v10 =>
 (cnd
 (cnd
 (cnd
 (cnd
 (Prog.call (callF En (runP En f) 123 [(Value.string (mkStr (List.take ((Int.toNat (IntKind.wrap IntKind.i64 ((IntKind.wrap IntKind.i64 ((IntKind.wrap IntKind.i64 ((intOf v7) + x1)) + (intOf v9))) + (2 : Int)))) - (Int.toNat (IntKind.wrap IntKind.i64 ((intOf v7) + x1)))) (List.drop (Int.toNat (IntKind.wrap IntKind.i64 ((intOf v7) + x1))) (Array.toList (ByteArray.data (strOf v10)))))))]) fun v11 =>
 (cnd
 (cnd
 (Prog.ret (Value.tuple ⟨((Value.string (strOf (at_ (tupOf v11) 0))) :: ((Value.int IntKind.i64 (IntKind.wrap IntKind.i64 ((intOf v9) + (2 : Int)))) :: []))⟩))
 (p65_7 f x0 (IntKind.wrap IntKind.i64 ((intOf v7) + x1)))
 (boolOf (at_ (tupOf v11) 1)))
 Prog.fail
 ((isTupV v11) && (okNs ((Nm.one Kd.str) :: ((Nm.one Kd.bool) :: [])) (tupOf v11)))))
 Prog.fail
 ((Nat.ble (Int.toNat (IntKind.wrap IntKind.i64 ((intOf v7) + x1))) (Int.toNat (IntKind.wrap IntKind.i64 ((IntKind.wrap IntKind.i64 ((IntKind.wrap IntKind.i64 ((intOf v7) + x1)) + (intOf v9))) + (2 : Int))))) && (Nat.ble (Int.toNat (IntKind.wrap IntKind.i64 ((IntKind.wrap IntKind.i64 ((IntKind.wrap IntKind.i64 ((intOf v7) + x1)) + (intOf v9))) + (2 : Int)))) (List.length (Array.toList (ByteArray.data (strOf v10)))))))
 Prog.fail
 (decide ((0 : Int) ≤ (IntKind.wrap IntKind.i64 ((IntKind.wrap IntKind.i64 ((IntKind.wrap IntKind.i64 ((intOf v7) + x1)) + (intOf v9))) + (2 : Int))))))
 Prog.fail
 (decide ((0 : Int) ≤ (IntKind.wrap IntKind.i64 ((intOf v7) + x1)))))
 Prog.fail
 (okK Kd.str v10)))
 (loadT En 9 x0 0))
 (p65_7 f x0 (IntKind.wrap IntKind.i64 ((intOf v7) + x1)))
 (decide ((intOf v9) ≥ (0 : Int))))
 Prog.fail
 (okK (Kd.int IntKind.i64) v9)))
 Prog.fail
 ((Nat.ble (Int.toNat (IntKind.wrap IntKind.i64 ((IntKind.wrap IntKind.i64 ((intOf v7) + x1)) + (1 : Int)))) (List.length (Array.toList (ByteArray.data (strOf v8))))) && (Nat.ble (List.length (Array.toList (ByteArray.data (strOf v8)))) (List.length (Array.toList (ByteArray.data (strOf v8)))))))
 Prog.fail
 (decide ((0 : Int) ≤ (IntKind.wrap IntKind.i64 ((IntKind.wrap IntKind.i64 ((intOf v7) + x1)) + (1 : Int))))))
 Prog.fail
 (okK Kd.str v8)))
 (loadT En 9 x0 0))
 Prog.fail
 (okK (Kd.int IntKind.i64) v7)))
 (loadT En 3 x0 1)) := by kernel_rfl
end Go.Proofs.YtmjbmbmnnephjaaGreatDoor
/- What comes of the points of a function: printed by the tool. -/
namespace Go.Proofs.YtmjbmbmnnephjaaGreatDoor
open Go Go.Ev Go.Proofs
set_option maxRecDepth 8000
set_option linter.unusedVariables false
theorem f66_eq (f : Nat) (x0 : ByteArray) (x1 : Int) : callF En (runP En (f + 1)) 66 [(Value.string x0), (Value.int IntKind.u8 x1)] =
 (Prog.call (callF En (runP En f) 124 [(Value.string x0), (Value.int IntKind.u8 x1)]) fun v2 =>
 (cnd
 (Prog.ret (Value.int IntKind.i64 (intOf v2)))
 Prog.fail
 (okK (Kd.int IntKind.i64) v2))) := by kernel_rfl
end Go.Proofs.YtmjbmbmnnephjaaGreatDoor
/- What comes of the points of a function: printed by the tool. -/
namespace Go.Proofs.YtmjbmbmnnephjaaGreatDoor
open Go Go.Ev Go.Proofs
set_option maxRecDepth 8000
set_option linter.unusedVariables false
noncomputable def p67_6 (f : Nat) (x0 : Nat) (x2 : Int) (x3 : Int) : Prog := runP En f 67 (tmL 126 [(0, (Value.pointer (Option.some (Addr.mk x0 0 Option.none)))), (2, (Value.int IntKind.i64 x2)), (3, (Value.int IntKind.u8 x3))]) [.code (cL (cL (cR (cR (cB 67))))), .code (cR (cL (cR (cR (cB 67))))), .code (cR (cR (cR (cB 67))))] [] none
theorem f67_eq (f : Nat) (x0 : Nat) : callF En (runP En (f + 1)) 67 [(Value.pointer (Option.some (Addr.mk x0 0 Option.none)))] =
 (Prog.seg (loadT En 3 x0 1) fun v49 s50 _ =>
 (cnd
 (Prog.seg (callF En (runP En f) 59 [(Value.pointer (Option.some (Addr.mk x0 0 Option.none))), (Value.int IntKind.i64 (0 : Int))]) fun v51 s52 _ =>
 (gdL 224 (writesOf s52) s52 [⟨4, writesOf s50, s50⟩]
 (cnd
 (cnd
 (Prog.call (callF En (runP En f) 59 [(Value.pointer (Option.some (Addr.mk x0 0 Option.none))), (Value.int IntKind.i64 (1 : Int))]) fun v53 =>
 (cnd
 (cnd
 (Prog.call (callF En (runP En f) 59 [(Value.pointer (Option.some (Addr.mk x0 0 Option.none))), (Value.int IntKind.i64 (3 : Int))]) fun v54 =>
 (cnd
 (Prog.call (callF En (runP En f) 43 [(Value.int IntKind.u8 (intOf v54))]) fun v55 =>
 (cnd
 (cnd
 (Prog.seg (callF En (runP En f) 59 [(Value.pointer (Option.some (Addr.mk x0 0 Option.none))), (Value.int IntKind.i64 (2 : Int))]) fun v56 s57 _ =>
 (cnd
 (Prog.seg (callF En (runP En f) 66 [(Value.string (mkStr [98, 105, 115, 116, 100])), (Value.int IntKind.u8 (intOf v56))]) fun v58 s59 _ =>
 (gdL 31 (writesOf s59) s59 [⟨4, writesOf s57, s57⟩]
 (cnd
 (cnd
 (Prog.call (callF En (runP En f) 59 [(Value.pointer (Option.some (Addr.mk x0 0 Option.none))), (Value.int IntKind.i64 (2 : Int))]) fun v60 =>
 (cnd
 (cnd
 (callP (fun v61 =>
 (cnd
 (callP (fun v62 =>
 (Prog.seg (loadT En 9 x0 0) fun v63 s64 _ =>
 (cnd
 (Prog.seg (loadT En 3 x0 1) fun v65 s66 _ =>
 (gdL 3840 (writesOf s66) s66 [⟨6, writesOf s64, s64⟩]
 (cnd
 (cnd
 (cnd
 (cnd
 (gd Bool.true
 (Prog.seg (callF En (runP En f) 63 [(Value.pointer (Option.some (Addr.mk x0 0 Option.none))), (Value.int IntKind.i64 (1 : Int)), (Value.int IntKind.i64 (intOf v49)), (Value.string (mkStr (List.take ((Int.toNat (intOf v65)) - (Int.toNat (intOf v49))) (List.drop (Int.toNat (intOf v49)) (Array.toList (ByteArray.data (strOf v63))))))), (Value.agg ⟨((Value.int IntKind.i64 (IntKind.wrap IntKind.i64 ((intOf v58) + (1 : Int)))) :: ((lstV []) :: ((lstV []) :: ((lstV []) :: []))))⟩)]) fun v67 s68 _ =>
 (gdL 131071 (writesOf s68) s68 [⟨12, writesOf s66, s66⟩, ⟨6, writesOf s64, s64⟩]
 (cnd
 (Prog.ret (Value.tuple ⟨[]⟩))
 Prog.fail
 ((isTupV v67) && (okNs [] (tupOf v67)))))))
 Prog.fail
 ((Nat.ble (Int.toNat (intOf v49)) (Int.toNat (intOf v65))) && (Nat.ble (Int.toNat (intOf v65)) (List.length (Array.toList (ByteArray.data (strOf v63)))))))
 Prog.fail
 (decide ((0 : Int) ≤ (intOf v65))))
 Prog.fail
 (decide ((0 : Int) ≤ (intOf v49))))
 Prog.fail
 (okK (Kd.int IntKind.i64) v65))))
 Prog.fail
 (okK Kd.str v63))))
 (storeT En 3 x0 1 (Value.int IntKind.i64 (IntKind.wrap IntKind.i64 ((intOf v61) + (3 : Int))))))
 Prog.fail
 (okK (Kd.int IntKind.i64) v61)))
 (loadT En 3 x0 1))
 (p67_6 f x0 (intOf v49) (intOf v51))
 (Bool.not (decide ((intOf v60) = (0 : Int)))))
 Prog.fail
 (okK (Kd.int IntKind.u8) v60)))
 (p67_6 f x0 (intOf v49) (intOf v51))
 (decide ((intOf v58) ≥ (0 : Int))))
 Prog.fail
 (okK (Kd.int IntKind.i64) v58))))
 Prog.fail
 (okK (Kd.int IntKind.u8) v56)))
 (p67_6 f x0 (intOf v49) (intOf v51))
 (Bool.not (boolOf v55)))
 Prog.fail
 (okK Kd.bool v55)))
 Prog.fail
 (okK (Kd.int IntKind.u8) v54)))
 (p67_6 f x0 (intOf v49) (intOf v51))
 (decide ((intOf v53) = (41 : Int))))
 Prog.fail
 (okK (Kd.int IntKind.u8) v53)))
 (p67_6 f x0 (intOf v49) (intOf v51))
 (decide ((intOf v51) = (40 : Int))))
 Prog.fail
 (okK (Kd.int IntKind.u8) v51))))
 Prog.fail
 (okK (Kd.int IntKind.i64) v49))) := by kernel_rfl
end Go.Proofs.YtmjbmbmnnephjaaGreatDoor
/- What comes of the points of a function: printed by the tool. -/
namespace Go.Proofs.YtmjbmbmnnephjaaGreatDoor
open Go Go.Ev Go.Proofs
set_option maxRecDepth 8000
set_option linter.unusedVariables false
theorem f68_eq (f : Nat) (x0 : Int) : callF En (runP En (f + 1)) 68 [(Value.int IntKind.i64 x0)] =
 (Prog.call (callF En (runP En f) 125 [(Value.int IntKind.i64 x0)]) fun v4 =>
 (cnd
 (cnd
 (Prog.ret (Value.tuple ⟨((Value.bool Bool.false) :: ((Value.bool Bool.true) :: ((Value.bool Bool.false) :: ((Value.bool Bool.true) :: []))))⟩))
 (cnd
 (Prog.call (callF En (runP En f) 125 [(Value.int IntKind.i64 x0)]) fun v5 =>
 (cnd
 (cnd
 (Prog.call (callF En (runP En f) 125 [(Value.int IntKind.i64 x0)]) fun v6 =>
 (cnd
 (cnd
 (Prog.ret (Value.tuple ⟨((Value.bool Bool.true) :: ((Value.bool Bool.false) :: ((Value.bool Bool.false) :: ((Value.bool Bool.true) :: []))))⟩))
 (cnd
 (Prog.ret (Value.tuple ⟨((Value.bool Bool.false) :: ((Value.bool Bool.false) :: ((Value.bool Bool.true) :: ((Value.bool Bool.true) :: []))))⟩))
 (cnd
 (Prog.ret (Value.tuple ⟨((Value.bool Bool.false) :: ((Value.bool Bool.false) :: ((Value.bool Bool.true) :: ((Value.bool Bool.true) :: []))))⟩))
 (cnd
 (Prog.ret (Value.tuple ⟨((Value.bool Bool.false) :: ((Value.bool Bool.true) :: ((Value.bool Bool.true) :: ((Value.bool Bool.true) :: []))))⟩))
 (cnd
 (Prog.ret (Value.tuple ⟨((Value.bool Bool.false) :: ((Value.bool Bool.true) :: ((Value.bool Bool.false) :: ((Value.bool Bool.true) :: []))))⟩))
 (Prog.ret (Value.tuple ⟨((Value.bool Bool.false) :: ((Value.bool Bool.false) :: ((Value.bool Bool.false) :: ((Value.bool (decide (x0 = (101 : Int)))) :: []))))⟩))
 (decide (x0 = (100 : Int))))
 (decide (x0 = (98 : Int))))
 (decide (x0 = (99 : Int))))
 (decide (x0 = (0 : Int))))
 (decide ((intOf v6) ≤ (5 : Int))))
 Prog.fail
 (okK (Kd.int IntKind.i64) v6)))
 (cnd
 (Prog.ret (Value.tuple ⟨((Value.bool Bool.false) :: ((Value.bool Bool.false) :: ((Value.bool Bool.true) :: ((Value.bool Bool.true) :: []))))⟩))
 (cnd
 (Prog.ret (Value.tuple ⟨((Value.bool Bool.false) :: ((Value.bool Bool.false) :: ((Value.bool Bool.true) :: ((Value.bool Bool.true) :: []))))⟩))
 (cnd
 (Prog.ret (Value.tuple ⟨((Value.bool Bool.false) :: ((Value.bool Bool.true) :: ((Value.bool Bool.true) :: ((Value.bool Bool.true) :: []))))⟩))
 (cnd
 (Prog.ret (Value.tuple ⟨((Value.bool Bool.false) :: ((Value.bool Bool.true) :: ((Value.bool Bool.false) :: ((Value.bool Bool.true) :: []))))⟩))
 (Prog.ret (Value.tuple ⟨((Value.bool Bool.false) :: ((Value.bool Bool.false) :: ((Value.bool Bool.false) :: ((Value.bool (decide (x0 = (101 : Int)))) :: []))))⟩))
 (decide (x0 = (100 : Int))))
 (decide (x0 = (98 : Int))))
 (decide (x0 = (99 : Int))))
 (decide (x0 = (0 : Int))))
 (decide ((intOf v5) ≥ (1 : Int))))
 Prog.fail
 (okK (Kd.int IntKind.i64) v5)))
 (cnd
 (Prog.ret (Value.tuple ⟨((Value.bool Bool.false) :: ((Value.bool Bool.false) :: ((Value.bool Bool.true) :: ((Value.bool Bool.true) :: []))))⟩))
 (cnd
 (Prog.ret (Value.tuple ⟨((Value.bool Bool.false) :: ((Value.bool Bool.false) :: ((Value.bool Bool.true) :: ((Value.bool Bool.true) :: []))))⟩))
 (cnd
 (Prog.ret (Value.tuple ⟨((Value.bool Bool.false) :: ((Value.bool Bool.true) :: ((Value.bool Bool.true) :: ((Value.bool Bool.true) :: []))))⟩))
 (cnd
 (Prog.ret (Value.tuple ⟨((Value.bool Bool.false) :: ((Value.bool Bool.true) :: ((Value.bool Bool.false) :: ((Value.bool Bool.true) :: []))))⟩))
 (Prog.ret (Value.tuple ⟨((Value.bool Bool.false) :: ((Value.bool Bool.false) :: ((Value.bool Bool.false) :: ((Value.bool (decide (x0 = (101 : Int)))) :: []))))⟩))
 (decide (x0 = (100 : Int))))
 (decide (x0 = (98 : Int))))
 (decide (x0 = (99 : Int))))
 (decide (x0 = (0 : Int))))
 (Bool.not (decide (x0 = (0 : Int)))))
 (decide ((intOf v4) = (3 : Int))))
 Prog.fail
 (okK (Kd.int IntKind.i64) v4))) := by kernel_rfl
end Go.Proofs.YtmjbmbmnnephjaaGreatDoor
/- What comes of the points of a function: printed by the tool. -/
namespace Go.Proofs.YtmjbmbmnnephjaaGreatDoor
open Go Go.Ev Go.Proofs
set_option maxRecDepth 8000
set_option linter.unusedVariables false
theorem f69_eq (f : Nat) (x0_0 : Int) (x0_1 : List Value) (x0_2 : List Value) (x0_3 : List Value) : callF En (runP En (f + 1)) 69 [(Value.agg ⟨((Value.int IntKind.i64 x0_0) :: ((lstV x0_1) :: ((lstV x0_2) :: ((lstV x0_3) :: []))))⟩)] =
 (gd Bool.true
 (callP (fun v14 =>
 (cnd
 (callP (fun v15 =>
 (cnd
 (cnd
 (callP (fun v16 =>
 (cnd
 (Prog.ret (Value.bool (decide ((Int.ofNat (List.length (elems v16))) > (65536 : Int)))))
 Prog.fail
 (isLst v16)))
 (loadT En 29 (blkOf v14) ((offOf v14) + 2)))
 (callP (fun v17 =>
 (cnd
 (Prog.call (callF En (runP En f) 15 [(Value.agg ⟨((Value.int IntKind.i64 (intOf (at_ (aggOf v17) 0))) :: ((lstV (elems (at_ (aggOf v17) 1))) :: ((lstV (elems (at_ (aggOf v17) 2))) :: ((lstV (elems (at_ (aggOf v17) 3))) :: []))))⟩)]) fun v18 =>
 (cnd
 (cnd
 (callP (fun v19 =>
 (cnd
 (Prog.ret (Value.bool (decide ((Int.ofNat (List.length (elems v19))) > (65536 : Int)))))
 Prog.fail
 (isLst v19)))
 (loadT En 28 (blkOf v14) ((offOf v14) + 1)))
 (callP (fun v20 =>
 (cnd
 (cnd
 (callP (fun v21 =>
 (cnd
 (cnd
 (Prog.ret (Value.bool Bool.true))
 (callP (fun v22 =>
 (cnd
 (Prog.ret (Value.bool (decide ((Int.ofNat (List.length (elems v22))) > (64 : Int)))))
 Prog.fail
 (isLst v22)))
 (loadT En 30 (blkOf v14) ((offOf v14) + 3)))
 (decide ((Int.ofNat (List.length (elems v21))) > (64 : Int))))
 Prog.fail
 (isLst v21)))
 (loadT En 29 (blkOf v14) ((offOf v14) + 2)))
 (callP (fun v23 =>
 (cnd
 (cnd
 (callP (fun v24 =>
 (cnd
 (Prog.ret (Value.bool (decide ((Int.ofNat (List.length (elems v24))) > (65536 : Int)))))
 Prog.fail
 (isLst v24)))
 (loadT En 30 (blkOf v14) ((offOf v14) + 3)))
 (Prog.ret (Value.bool Bool.false))
 (decide ((intOf v23) = (0 : Int))))
 Prog.fail
 (okK (Kd.int IntKind.i64) v23)))
 (loadT En 3 (blkOf v14) ((offOf v14) + 0)))
 (decide ((intOf v20) = (98 : Int))))
 Prog.fail
 (okK (Kd.int IntKind.i64) v20)))
 (loadT En 3 (blkOf v14) ((offOf v14) + 0)))
 (boolOf v18))
 Prog.fail
 (okK Kd.bool v18)))
 Prog.fail
 ((isAggV v17) && (okKs ((Kd.int IntKind.i64) :: (Kd.lst :: (Kd.lst :: (Kd.lst :: [])))) (aggOf v17)))))
 (loadT En 32 (blkOf v14) (offOf v14)))
 (decide ((intOf v15) = (3 : Int))))
 Prog.fail
 (okK (Kd.int IntKind.i64) v15)))
 (loadT En 3 (blkOf v14) ((offOf v14) + 0)))
 Prog.fail
 (isPt v14)))
 (Prog.newH (Hdr.mk 4 32 Bool.false Bool.true Bool.true 0 Bool.false Bool.false []) ((Value.int IntKind.i64 x0_0) :: ((lstV x0_1) :: ((lstV x0_2) :: ((lstV x0_3) :: [])))) (fun z13 => (Prog.ret (itP z13)))))) := by kernel_rfl
end Go.Proofs.YtmjbmbmnnephjaaGreatDoor
/- What comes of the points of a function: printed by the tool. -/
namespace Go.Proofs.YtmjbmbmnnephjaaGreatDoor
open Go Go.Ev Go.Proofs
set_option maxRecDepth 8000
set_option linter.unusedVariables false
noncomputable def p70_4 (f : Nat) (x1 : Nat) (x1o : Nat) (x3 : Int) : Prog := runP En f 70 (tmL 23 [(1, (Value.pointer (Option.some (Addr.mk x1 x1o Option.none)))), (3, (Value.int IntKind.i64 x3))]) [.code (cL (cL (cR (cR (cR (cB 70)))))), .code (cR (cL (cR (cR (cR (cB 70)))))), .code (cR (cR (cR (cR (cB 70)))))] [] none
noncomputable def p70_5 (f : Nat) (x1 : Nat) (x1o : Nat) (x3 : Int) (x4 : Int) : Prog := runP En f 70 (tmL 23 [(1, (Value.pointer (Option.some (Addr.mk x1 x1o Option.none)))), (3, (Value.int IntKind.i64 x3)), (4, (Value.int IntKind.i64 x4))]) [.code (cL (cL (cI (cI (cR (cL (cR (cR (cR (cB 70)))))))))), .code (cR (cL (cI (cI (cR (cL (cR (cR (cR (cB 70)))))))))), .code (cR (cI (cI (cR (cL (cR (cR (cR (cB 70))))))))), .inLoop (cI (cI (cR (cL (cR (cR (cR (cB 70)))))))), .inBlock 0, .code (cR (cR (cR (cR (cB 70)))))] [] none
theorem p70_4_eq (f : Nat) (x1 : Nat) (x1o : Nat) (x3 : Int) : p70_4 (f + 1) x1 x1o x3 =
 (p70_5 f x1 x1o x3 (0 : Int)) := by kernel_rfl
theorem p70_5_eq (f : Nat) (x1 : Nat) (x1o : Nat) (x3 : Int) (x4 : Int) : p70_5 (f + 1) x1 x1o x3 x4 =
 (callP (fun v6 =>
 (cnd
 (cnd
 (callP (fun v7 =>
 (cnd
 (cnd
 (cnd
 (cnd
 (cnd
 (cnd
 (Prog.ret (Value.bool Bool.true))
 (p70_5 f x1 x1o x3 (IntKind.wrap IntKind.i64 (x4 + (1 : Int))))
 (decide ((Int.ofNat (List.length (Array.toList (ByteArray.data (strOf (List.headD (Array.toList (Value.cells (at_ (elems v7) (Int.toNat x4)))) (Value.tuple ⟨[]⟩))))))) > x3)))
 Prog.fail
 (okK Kd.str (List.headD (Array.toList (Value.cells (at_ (elems v7) (Int.toNat x4)))) (Value.tuple ⟨[]⟩))))
 Prog.fail
 (Nat.ble 1 (List.length (Array.toList (Value.cells (at_ (elems v7) (Int.toNat x4)))))))
 Prog.fail
 (((Nat.ble (Nat.succ (Int.toNat x4)) (List.length (elems v7))) && Bool.true) && (hdOk 1 (elems v7))))
 Prog.fail
 (decide ((0 : Int) ≤ x4)))
 Prog.fail
 (isLst v7)))
 (loadT En 29 x1 (x1o + 2)))
 (Prog.ret (Value.bool Bool.false))
 (decide (x4 < (Int.ofNat (List.length (elems v6))))))
 Prog.fail
 (isLst v6)))
 (loadT En 29 x1 (x1o + 2))) := by kernel_rfl
theorem f70_eq (f : Nat) (x0_0 : Int) (x0_1 : List Value) (x0_2 : List Value) (x0_3 : List Value) : callF En (runP En (f + 1)) 70 [(Value.agg ⟨((Value.int IntKind.i64 x0_0) :: ((lstV x0_1) :: ((lstV x0_2) :: ((lstV x0_3) :: []))))⟩)] =
 (gd Bool.true
 (callP (fun v9 =>
 (cnd
 (callP (fun v10 =>
 (cnd
 (cnd
 (p70_4 f (blkOf v9) (offOf v9) (65536 : Int))
 (p70_4 f (blkOf v9) (offOf v9) (64 : Int))
 (decide ((intOf v10) = (100 : Int))))
 Prog.fail
 (okK (Kd.int IntKind.i64) v10)))
 (loadT En 3 (blkOf v9) ((offOf v9) + 0)))
 Prog.fail
 (isPt v9)))
 (Prog.newH (Hdr.mk 4 32 Bool.false Bool.true Bool.true 0 Bool.false Bool.false []) ((Value.int IntKind.i64 x0_0) :: ((lstV x0_1) :: ((lstV x0_2) :: ((lstV x0_3) :: [])))) (fun z8 => (Prog.ret (itP z8)))))) := by kernel_rfl
end Go.Proofs.YtmjbmbmnnephjaaGreatDoor
/- What comes of the points of a function: printed by the tool. -/
namespace Go.Proofs.YtmjbmbmnnephjaaGreatDoor
open Go Go.Ev Go.Proofs
set_option maxRecDepth 8000
set_option linter.unusedVariables false
noncomputable def p71_5 (f : Nat) (x1 : Nat) (x1o : Nat) (x3 : Int) : Prog := runP En f 71 (tmL 152 [(1, (Value.pointer (Option.some (Addr.mk x1 x1o Option.none)))), (3, (Value.int IntKind.i64 x3))]) [.code (cL (cL (cI (cI (cR (cL (cR (cR (cR (cI (cL (cR (cB 71))))))))))))), .code (cR (cL (cI (cI (cR (cL (cR (cR (cR (cI (cL (cR (cB 71))))))))))))), .code (cR (cI (cI (cR (cL (cR (cR (cR (cI (cL (cR (cB 71)))))))))))), .inLoop (cI (cI (cR (cL (cR (cR (cR (cI (cL (cR (cB 71))))))))))), .inBlock 1, .inBlock 0, .code (cR (cR (cB 71)))] [] none
noncomputable def p71_18 (f : Nat) (x1 : Nat) (x1o : Nat) : Prog := runP En f 71 (tmL 152 [(1, (Value.pointer (Option.some (Addr.mk x1 x1o Option.none))))]) [.code (cL (cL (cR (cR (cB 71))))), .code (cR (cL (cR (cR (cB 71))))), .code (cR (cR (cR (cB 71))))] [] none
noncomputable def p71_19 (f : Nat) (x1 : Nat) (x1o : Nat) (x4 : Int) : Prog := runP En f 71 (tmL 152 [(1, (Value.pointer (Option.some (Addr.mk x1 x1o Option.none)))), (4, (Value.int IntKind.i64 x4))]) [.code (cL (cL (cI (cI (cR (cL (cR (cR (cB 71))))))))), .code (cR (cL (cI (cI (cR (cL (cR (cR (cB 71))))))))), .code (cR (cI (cI (cR (cL (cR (cR (cB 71)))))))), .inLoop (cI (cI (cR (cL (cR (cR (cB 71))))))), .inBlock 3, .code (cR (cR (cR (cB 71))))] [] none
theorem p71_5_eq (f : Nat) (x1 : Nat) (x1o : Nat) (x3 : Int) : p71_5 (f + 1) x1 x1o x3 =
 (callP (fun v77 =>
 (cnd
 (cnd
 (callP (fun v78 =>
 (cnd
 (cnd
 (cnd
 (cnd
 (cnd
 (cnd
 (callP (fun v79 =>
 (cnd
 (cnd
 (cnd
 (cnd
 (cnd
 (cnd
 (Prog.ret (Value.bool Bool.false))
 (p71_5 f x1 x1o (IntKind.wrap IntKind.i64 (x3 + (1 : Int))))
 (Bool.not (decide ((intOf (List.headD (Array.toList (Value.cells (at_ (elems v79) (Int.toNat x3)))) (Value.tuple ⟨[]⟩))) = (1 : Int)))))
 Prog.fail
 (okK (Kd.int IntKind.i64) (List.headD (Array.toList (Value.cells (at_ (elems v79) (Int.toNat x3)))) (Value.tuple ⟨[]⟩))))
 Prog.fail
 (Nat.ble 1 (List.length (Array.toList (Value.cells (at_ (elems v79) (Int.toNat x3)))))))
 Prog.fail
 (((Nat.ble (Nat.succ (Int.toNat x3)) (List.length (elems v79))) && Bool.true) && (hdOk 1 (elems v79))))
 Prog.fail
 (decide ((0 : Int) ≤ x3)))
 Prog.fail
 (isLst v79)))
 (loadT En 28 x1 (x1o + 1)))
 (p71_5 f x1 x1o (IntKind.wrap IntKind.i64 (x3 + (1 : Int))))
 (Bool.not (decide ((intOf (List.headD (Array.toList (Value.cells (at_ (elems v78) (Int.toNat x3)))) (Value.tuple ⟨[]⟩))) = (0 : Int)))))
 Prog.fail
 (okK (Kd.int IntKind.i64) (List.headD (Array.toList (Value.cells (at_ (elems v78) (Int.toNat x3)))) (Value.tuple ⟨[]⟩))))
 Prog.fail
 (Nat.ble 1 (List.length (Array.toList (Value.cells (at_ (elems v78) (Int.toNat x3)))))))
 Prog.fail
 (((Nat.ble (Nat.succ (Int.toNat x3)) (List.length (elems v78))) && Bool.true) && (hdOk 1 (elems v78))))
 Prog.fail
 (decide ((0 : Int) ≤ x3)))
 Prog.fail
 (isLst v78)))
 (loadT En 28 x1 (x1o + 1)))
 (p71_18 f x1 x1o)
 (decide (x3 < (Int.ofNat (List.length (elems v77))))))
 Prog.fail
 (isLst v77)))
 (loadT En 28 x1 (x1o + 1))) := by kernel_rfl
theorem p71_18_eq (f : Nat) (x1 : Nat) (x1o : Nat) : p71_18 (f + 1) x1 x1o =
 (p71_19 f x1 x1o (0 : Int)) := by kernel_rfl
theorem p71_19_eq (f : Nat) (x1 : Nat) (x1o : Nat) (x4 : Int) : p71_19 (f + 1) x1 x1o x4 =
 (callP (fun v80 =>
 (cnd
 (cnd
 (callP (fun v81 =>
 (cnd
 (Prog.call (callF En (runP En f) 125 [(Value.int IntKind.i64 (intOf v81))]) fun v82 =>
 (cnd
 (cnd
 (callP (fun v83 =>
 (cnd
 (cnd
 (cnd
 (cnd
 (cnd
 (Prog.call (callF En (runP En f) 129 [(Value.string (strOf (List.headD (Array.toList (Value.cells (at_ (elems v83) (Int.toNat x4)))) (Value.tuple ⟨[]⟩))))]) fun v84 =>
 (cnd
 (cnd
 (Prog.ret (Value.bool Bool.false))
 (p71_19 f x1 x1o (IntKind.wrap IntKind.i64 (x4 + (1 : Int))))
 (Bool.not (boolOf v84)))
 Prog.fail
 (okK Kd.bool v84)))
 Prog.fail
 (okK Kd.str (List.headD (Array.toList (Value.cells (at_ (elems v83) (Int.toNat x4)))) (Value.tuple ⟨[]⟩))))
 Prog.fail
 (Nat.ble 1 (List.length (Array.toList (Value.cells (at_ (elems v83) (Int.toNat x4)))))))
 Prog.fail
 (((Nat.ble (Nat.succ (Int.toNat x4)) (List.length (elems v83))) && Bool.true) && (hdOk 1 (elems v83))))
 Prog.fail
 (decide ((0 : Int) ≤ x4)))
 Prog.fail
 (isLst v83)))
 (loadT En 29 x1 (x1o + 2)))
 (Prog.ret (Value.bool Bool.true))
 (decide ((intOf v82) = (3 : Int))))
 Prog.fail
 (okK (Kd.int IntKind.i64) v82)))
 Prog.fail
 (okK (Kd.int IntKind.i64) v81)))
 (loadT En 3 x1 (x1o + 0)))
 (Prog.ret (Value.bool Bool.true))
 (decide (x4 < (Int.ofNat (List.length (elems v80))))))
 Prog.fail
 (isLst v80)))
 (loadT En 29 x1 (x1o + 2))) := by kernel_rfl
theorem f71_eq (f : Nat) (x0_0 : Int) (x0_1 : List Value) (x0_2 : List Value) (x0_3 : List Value) : callF En (runP En (f + 1)) 71 [(Value.agg ⟨((Value.int IntKind.i64 x0_0) :: ((lstV x0_1) :: ((lstV x0_2) :: ((lstV x0_3) :: []))))⟩)] =
 (gd Bool.true
 (callP (fun v86 =>
 (cnd
 (callP (fun v87 =>
 (cnd
 (Prog.call (callF En (runP En f) 14 [(Value.agg ⟨((Value.int IntKind.i64 (intOf (at_ (aggOf v87) 0))) :: ((lstV (elems (at_ (aggOf v87) 1))) :: ((lstV (elems (at_ (aggOf v87) 2))) :: ((lstV (elems (at_ (aggOf v87) 3))) :: []))))⟩)]) fun v88 =>
 (cnd
 (cnd
 (callP (fun v89 =>
 (cnd
 (callP (fun v90 =>
 (cnd
 (cnd
 (Prog.ret (Value.bool Bool.false))
 (callP (fun v91 =>
 (cnd
 (Prog.call (callF En (runP En f) 125 [(Value.int IntKind.i64 (intOf v91))]) fun v92 =>
 (cnd
 (cnd
 (p71_5 f (blkOf v86) (offOf v86) (0 : Int))
 (callP (fun v93 =>
 (cnd
 (cnd
 (Prog.seg (loadT En 29 (blkOf v86) ((offOf v86) + 2)) fun v94 s95 _ =>
 (cnd
 (Prog.seg (builtinA En Builtin.len (29 :: []) ((lstV (elems v94)) :: [])) fun v96 s97 _ =>
 (gdL 3 (writesOf s97) s97 [⟨1, writesOf s95, s95⟩]
 (cnd
 (cnd
 (Prog.ret (Value.bool Bool.false))
 (Prog.seg (loadT En 29 (blkOf v86) ((offOf v86) + 2)) fun v98 s99 _ =>
 (gdL 63 (writesOf s99) s99 [⟨2, writesOf s97, s97⟩, ⟨1, writesOf s95, s95⟩]
 (cnd
 (cnd
 (cnd
 (cnd
 (cnd
 (Prog.ret (Value.bool Bool.false))
 (Prog.seg (loadT En 29 (blkOf v86) ((offOf v86) + 2)) fun v100 s101 _ =>
 (gdL 16383 (writesOf s101) s101 [⟨6, writesOf s99, s99⟩, ⟨2, writesOf s97, s97⟩, ⟨1, writesOf s95, s95⟩]
 (cnd
 (cnd
 (cnd
 (cnd
 (cnd
 (cnd
 (Prog.ret (Value.bool Bool.false))
 (Prog.seg (loadT En 29 (blkOf v86) ((offOf v86) + 2)) fun v102 s103 _ =>
 (gdL 4194303 (writesOf s103) s103 [⟨14, writesOf s101, s101⟩, ⟨6, writesOf s99, s99⟩, ⟨2, writesOf s97, s97⟩, ⟨1, writesOf s95, s95⟩]
 (cnd
 (cnd
 (cnd
 (cnd
 (Prog.seg (loadT En 29 (blkOf v86) ((offOf v86) + 2)) fun v104 s105 _ =>
 (gdL 35651583 (writesOf s105) s105 [⟨22, writesOf s103, s103⟩, ⟨14, writesOf s101, s101⟩, ⟨6, writesOf s99, s99⟩, ⟨2, writesOf s97, s97⟩, ⟨1, writesOf s95, s95⟩]
 (cnd
 (cnd
 (cnd
 (cnd
 (cnd
 (cnd
 (cnd
 (Prog.ret (Value.bool Bool.false))
 (p71_18 f (blkOf v86) (offOf v86))
 (Bool.not (decide ((Int.ofNat (byteAt (strOf (List.headD (Array.toList (Value.cells (at_ (elems v102) 0))) (Value.tuple ⟨[]⟩))) (Int.toNat (IntKind.wrap IntKind.i64 (Int.subNatNat (List.length (Array.toList (ByteArray.data (strOf (List.headD (Array.toList (Value.cells (at_ (elems v104) 0))) (Value.tuple ⟨[]⟩)))))) 1))))) = (125 : Int)))))
 Prog.fail
 (Nat.ble (Nat.succ (Int.toNat (IntKind.wrap IntKind.i64 (Int.subNatNat (List.length (Array.toList (ByteArray.data (strOf (List.headD (Array.toList (Value.cells (at_ (elems v104) 0))) (Value.tuple ⟨[]⟩)))))) 1)))) (List.length (Array.toList (ByteArray.data (strOf (List.headD (Array.toList (Value.cells (at_ (elems v102) 0))) (Value.tuple ⟨[]⟩))))))))
 Prog.fail
 (decide ((0 : Int) ≤ (IntKind.wrap IntKind.i64 (Int.subNatNat (List.length (Array.toList (ByteArray.data (strOf (List.headD (Array.toList (Value.cells (at_ (elems v104) 0))) (Value.tuple ⟨[]⟩)))))) 1)))))
 Prog.fail
 (okK Kd.str (List.headD (Array.toList (Value.cells (at_ (elems v104) 0))) (Value.tuple ⟨[]⟩))))
 Prog.fail
 (Nat.ble 1 (List.length (Array.toList (Value.cells (at_ (elems v104) 0))))))
 Prog.fail
 (((Nat.ble 1 (List.length (elems v104))) && Bool.true) && (hdOk 1 (elems v104))))
 Prog.fail
 (isLst v104))))
 Prog.fail
 (okK Kd.str (List.headD (Array.toList (Value.cells (at_ (elems v102) 0))) (Value.tuple ⟨[]⟩))))
 Prog.fail
 (Nat.ble 1 (List.length (Array.toList (Value.cells (at_ (elems v102) 0))))))
 Prog.fail
 (((Nat.ble 1 (List.length (elems v102))) && Bool.true) && (hdOk 1 (elems v102))))
 Prog.fail
 (isLst v102))))
 (Bool.not (decide ((Int.ofNat (byteAt (strOf (List.headD (Array.toList (Value.cells (at_ (elems v100) 0))) (Value.tuple ⟨[]⟩))) 0)) = (123 : Int)))))
 Prog.fail
 (Nat.ble 1 (List.length (Array.toList (ByteArray.data (strOf (List.headD (Array.toList (Value.cells (at_ (elems v100) 0))) (Value.tuple ⟨[]⟩))))))))
 Prog.fail
 (okK Kd.str (List.headD (Array.toList (Value.cells (at_ (elems v100) 0))) (Value.tuple ⟨[]⟩))))
 Prog.fail
 (Nat.ble 1 (List.length (Array.toList (Value.cells (at_ (elems v100) 0))))))
 Prog.fail
 (((Nat.ble 1 (List.length (elems v100))) && Bool.true) && (hdOk 1 (elems v100))))
 Prog.fail
 (isLst v100))))
 (decide ((Int.ofNat (List.length (Array.toList (ByteArray.data (strOf (List.headD (Array.toList (Value.cells (at_ (elems v98) 0))) (Value.tuple ⟨[]⟩))))))) < (2 : Int))))
 Prog.fail
 (okK Kd.str (List.headD (Array.toList (Value.cells (at_ (elems v98) 0))) (Value.tuple ⟨[]⟩))))
 Prog.fail
 (Nat.ble 1 (List.length (Array.toList (Value.cells (at_ (elems v98) 0))))))
 Prog.fail
 (((Nat.ble 1 (List.length (elems v98))) && Bool.true) && (hdOk 1 (elems v98))))
 Prog.fail
 (isLst v98))))
 (Bool.not (decide ((intOf v96) = (1 : Int)))))
 Prog.fail
 (okK (Kd.int IntKind.i64) v96))))
 Prog.fail
 (isLst v94)))
 (callP (fun v106 =>
 (cnd
 (cnd
 (callP (fun v107 =>
 (cnd
 (Prog.call (callF En (runP En f) 126 [(Value.agg ⟨((Value.int IntKind.i64 (intOf (at_ (aggOf v107) 0))) :: ((lstV (elems (at_ (aggOf v107) 1))) :: ((lstV (elems (at_ (aggOf v107) 2))) :: ((lstV (elems (at_ (aggOf v107) 3))) :: []))))⟩)]) fun v108 =>
 (cnd
 (Prog.ret (Value.bool (boolOf v108)))
 Prog.fail
 (okK Kd.bool v108)))
 Prog.fail
 ((isAggV v107) && (okKs ((Kd.int IntKind.i64) :: (Kd.lst :: (Kd.lst :: (Kd.lst :: [])))) (aggOf v107)))))
 (loadT En 32 (blkOf v86) (offOf v86)))
 (callP (fun v109 =>
 (cnd
 (cnd
 (callP (fun v110 =>
 (cnd
 (Prog.call (callF En (runP En f) 127 [(Value.agg ⟨((Value.int IntKind.i64 (intOf (at_ (aggOf v110) 0))) :: ((lstV (elems (at_ (aggOf v110) 1))) :: ((lstV (elems (at_ (aggOf v110) 2))) :: ((lstV (elems (at_ (aggOf v110) 3))) :: []))))⟩)]) fun v111 =>
 (cnd
 (Prog.ret (Value.bool (boolOf v111)))
 Prog.fail
 (okK Kd.bool v111)))
 Prog.fail
 ((isAggV v110) && (okKs ((Kd.int IntKind.i64) :: (Kd.lst :: (Kd.lst :: (Kd.lst :: [])))) (aggOf v110)))))
 (loadT En 32 (blkOf v86) (offOf v86)))
 (callP (fun v112 =>
 (cnd
 (cnd
 (callP (fun v113 =>
 (cnd
 (cnd
 (callP (fun v114 =>
 (cnd
 (cnd
 (cnd
 (cnd
 (Prog.call (callF En (runP En f) 128 [(Value.agg ⟨((Value.int IntKind.i64 (intOf (at_ (List.take 4 (Array.toList (Value.cells (at_ (elems v114) 0)))) 0))) :: ((lstV (elems (at_ (List.take 4 (Array.toList (Value.cells (at_ (elems v114) 0)))) 1))) :: ((lstV (elems (at_ (List.take 4 (Array.toList (Value.cells (at_ (elems v114) 0)))) 2))) :: ((lstV (elems (at_ (List.take 4 (Array.toList (Value.cells (at_ (elems v114) 0)))) 3))) :: []))))⟩)]) fun v115 =>
 (cnd
 (cnd
 (callP (fun v116 =>
 (cnd
 (cnd
 (cnd
 (cnd
 (Prog.call (callF En (runP En f) 128 [(Value.agg ⟨((Value.int IntKind.i64 (intOf (at_ (List.take 4 (Array.toList (Value.cells (at_ (elems v116) 1)))) 0))) :: ((lstV (elems (at_ (List.take 4 (Array.toList (Value.cells (at_ (elems v116) 1)))) 1))) :: ((lstV (elems (at_ (List.take 4 (Array.toList (Value.cells (at_ (elems v116) 1)))) 2))) :: ((lstV (elems (at_ (List.take 4 (Array.toList (Value.cells (at_ (elems v116) 1)))) 3))) :: []))))⟩)]) fun v117 =>
 (cnd
 (cnd
 (Prog.ret (Value.bool Bool.true))
 (callP (fun v118 =>
 (cnd
 (cnd
 (cnd
 (cnd
 (cnd
 (cnd
 (callP (fun v119 =>
 (cnd
 (cnd
 (cnd
 (cnd
 (cnd
 (Prog.ret (Value.bool (decide ((intOf (List.headD (Array.toList (Value.cells (at_ (elems v119) 1))) (Value.tuple ⟨[]⟩))) = (98 : Int)))))
 Prog.fail
 (okK (Kd.int IntKind.i64) (List.headD (Array.toList (Value.cells (at_ (elems v119) 1))) (Value.tuple ⟨[]⟩))))
 Prog.fail
 (Nat.ble 1 (List.length (Array.toList (Value.cells (at_ (elems v119) 1))))))
 Prog.fail
 (Nat.ble 1 (List.length (Array.toList (Value.cells (at_ (elems v119) 1))))))
 Prog.fail
 (((Nat.ble 2 (List.length (elems v119))) && Bool.true) && (hdOk 4 (elems v119))))
 Prog.fail
 (isLst v119)))
 (loadT En 30 (blkOf v86) ((offOf v86) + 3)))
 (Prog.ret (Value.bool Bool.false))
 (decide ((intOf (List.headD (Array.toList (Value.cells (at_ (elems v118) 0))) (Value.tuple ⟨[]⟩))) = (98 : Int))))
 Prog.fail
 (okK (Kd.int IntKind.i64) (List.headD (Array.toList (Value.cells (at_ (elems v118) 0))) (Value.tuple ⟨[]⟩))))
 Prog.fail
 (Nat.ble 1 (List.length (Array.toList (Value.cells (at_ (elems v118) 0))))))
 Prog.fail
 (Nat.ble 1 (List.length (Array.toList (Value.cells (at_ (elems v118) 0))))))
 Prog.fail
 (((Nat.ble 1 (List.length (elems v118))) && Bool.true) && (hdOk 4 (elems v118))))
 Prog.fail
 (isLst v118)))
 (loadT En 30 (blkOf v86) ((offOf v86) + 3)))
 (boolOf v117))
 Prog.fail
 (okK Kd.bool v117)))
 Prog.fail
 (okKs ((Kd.int IntKind.i64) :: (Kd.lst :: (Kd.lst :: (Kd.lst :: [])))) (List.take 4 (Array.toList (Value.cells (at_ (elems v116) 1))))))
 Prog.fail
 (Nat.ble 4 (List.length (Array.toList (Value.cells (at_ (elems v116) 1))))))
 Prog.fail
 (((Nat.ble 2 (List.length (elems v116))) && Bool.true) && (hdOk 4 (elems v116))))
 Prog.fail
 (isLst v116)))
 (loadT En 30 (blkOf v86) ((offOf v86) + 3)))
 (callP (fun v120 =>
 (cnd
 (cnd
 (cnd
 (cnd
 (cnd
 (cnd
 (callP (fun v121 =>
 (cnd
 (cnd
 (cnd
 (cnd
 (cnd
 (Prog.ret (Value.bool (decide ((intOf (List.headD (Array.toList (Value.cells (at_ (elems v121) 1))) (Value.tuple ⟨[]⟩))) = (98 : Int)))))
 Prog.fail
 (okK (Kd.int IntKind.i64) (List.headD (Array.toList (Value.cells (at_ (elems v121) 1))) (Value.tuple ⟨[]⟩))))
 Prog.fail
 (Nat.ble 1 (List.length (Array.toList (Value.cells (at_ (elems v121) 1))))))
 Prog.fail
 (Nat.ble 1 (List.length (Array.toList (Value.cells (at_ (elems v121) 1))))))
 Prog.fail
 (((Nat.ble 2 (List.length (elems v121))) && Bool.true) && (hdOk 4 (elems v121))))
 Prog.fail
 (isLst v121)))
 (loadT En 30 (blkOf v86) ((offOf v86) + 3)))
 (Prog.ret (Value.bool Bool.false))
 (decide ((intOf (List.headD (Array.toList (Value.cells (at_ (elems v120) 0))) (Value.tuple ⟨[]⟩))) = (98 : Int))))
 Prog.fail
 (okK (Kd.int IntKind.i64) (List.headD (Array.toList (Value.cells (at_ (elems v120) 0))) (Value.tuple ⟨[]⟩))))
 Prog.fail
 (Nat.ble 1 (List.length (Array.toList (Value.cells (at_ (elems v120) 0))))))
 Prog.fail
 (Nat.ble 1 (List.length (Array.toList (Value.cells (at_ (elems v120) 0))))))
 Prog.fail
 (((Nat.ble 1 (List.length (elems v120))) && Bool.true) && (hdOk 4 (elems v120))))
 Prog.fail
 (isLst v120)))
 (loadT En 30 (blkOf v86) ((offOf v86) + 3)))
 (boolOf v115))
 Prog.fail
 (okK Kd.bool v115)))
 Prog.fail
 (okKs ((Kd.int IntKind.i64) :: (Kd.lst :: (Kd.lst :: (Kd.lst :: [])))) (List.take 4 (Array.toList (Value.cells (at_ (elems v114) 0))))))
 Prog.fail
 (Nat.ble 4 (List.length (Array.toList (Value.cells (at_ (elems v114) 0))))))
 Prog.fail
 (((Nat.ble 1 (List.length (elems v114))) && Bool.true) && (hdOk 4 (elems v114))))
 Prog.fail
 (isLst v114)))
 (loadT En 30 (blkOf v86) ((offOf v86) + 3)))
 (Prog.ret (Value.bool Bool.false))
 (decide ((Int.ofNat (List.length (elems v113))) = (2 : Int))))
 Prog.fail
 (isLst v113)))
 (loadT En 30 (blkOf v86) ((offOf v86) + 3)))
 (p71_18 f (blkOf v86) (offOf v86))
 (decide ((intOf v112) = (99 : Int))))
 Prog.fail
 (okK (Kd.int IntKind.i64) v112)))
 (loadT En 3 (blkOf v86) ((offOf v86) + 0)))
 (decide ((intOf v109) = (98 : Int))))
 Prog.fail
 (okK (Kd.int IntKind.i64) v109)))
 (loadT En 3 (blkOf v86) ((offOf v86) + 0)))
 (decide ((intOf v106) = (0 : Int))))
 Prog.fail
 (okK (Kd.int IntKind.i64) v106)))
 (loadT En 3 (blkOf v86) ((offOf v86) + 0)))
 (decide ((intOf v93) = (100 : Int))))
 Prog.fail
 (okK (Kd.int IntKind.i64) v93)))
 (loadT En 3 (blkOf v86) ((offOf v86) + 0)))
 (decide ((intOf v92) = (1 : Int))))
 Prog.fail
 (okK (Kd.int IntKind.i64) v92)))
 Prog.fail
 (okK (Kd.int IntKind.i64) v91)))
 (loadT En 3 (blkOf v86) ((offOf v86) + 0)))
 (Bool.not (decide ((IntKind.wrap IntKind.i64 (Int.ofNat ((List.length (elems v89)) + (List.length (elems v90))))) = (1 : Int)))))
 Prog.fail
 (isLst v90)))
 (loadT En 29 (blkOf v86) ((offOf v86) + 2)))
 Prog.fail
 (isLst v89)))
 (loadT En 28 (blkOf v86) ((offOf v86) + 1)))
 (callP (fun v122 =>
 (cnd
 (Prog.call (callF En (runP En f) 125 [(Value.int IntKind.i64 (intOf v122))]) fun v123 =>
 (cnd
 (cnd
 (p71_5 f (blkOf v86) (offOf v86) (0 : Int))
 (callP (fun v124 =>
 (cnd
 (cnd
 (Prog.seg (loadT En 29 (blkOf v86) ((offOf v86) + 2)) fun v125 s126 _ =>
 (cnd
 (Prog.seg (builtinA En Builtin.len (29 :: []) ((lstV (elems v125)) :: [])) fun v127 s128 _ =>
 (gdL 3 (writesOf s128) s128 [⟨1, writesOf s126, s126⟩]
 (cnd
 (cnd
 (Prog.ret (Value.bool Bool.false))
 (Prog.seg (loadT En 29 (blkOf v86) ((offOf v86) + 2)) fun v129 s130 _ =>
 (gdL 63 (writesOf s130) s130 [⟨2, writesOf s128, s128⟩, ⟨1, writesOf s126, s126⟩]
 (cnd
 (cnd
 (cnd
 (cnd
 (cnd
 (Prog.ret (Value.bool Bool.false))
 (Prog.seg (loadT En 29 (blkOf v86) ((offOf v86) + 2)) fun v131 s132 _ =>
 (gdL 16383 (writesOf s132) s132 [⟨6, writesOf s130, s130⟩, ⟨2, writesOf s128, s128⟩, ⟨1, writesOf s126, s126⟩]
 (cnd
 (cnd
 (cnd
 (cnd
 (cnd
 (cnd
 (Prog.ret (Value.bool Bool.false))
 (Prog.seg (loadT En 29 (blkOf v86) ((offOf v86) + 2)) fun v133 s134 _ =>
 (gdL 4194303 (writesOf s134) s134 [⟨14, writesOf s132, s132⟩, ⟨6, writesOf s130, s130⟩, ⟨2, writesOf s128, s128⟩, ⟨1, writesOf s126, s126⟩]
 (cnd
 (cnd
 (cnd
 (cnd
 (Prog.seg (loadT En 29 (blkOf v86) ((offOf v86) + 2)) fun v135 s136 _ =>
 (gdL 35651583 (writesOf s136) s136 [⟨22, writesOf s134, s134⟩, ⟨14, writesOf s132, s132⟩, ⟨6, writesOf s130, s130⟩, ⟨2, writesOf s128, s128⟩, ⟨1, writesOf s126, s126⟩]
 (cnd
 (cnd
 (cnd
 (cnd
 (cnd
 (cnd
 (cnd
 (Prog.ret (Value.bool Bool.false))
 (p71_18 f (blkOf v86) (offOf v86))
 (Bool.not (decide ((Int.ofNat (byteAt (strOf (List.headD (Array.toList (Value.cells (at_ (elems v133) 0))) (Value.tuple ⟨[]⟩))) (Int.toNat (IntKind.wrap IntKind.i64 (Int.subNatNat (List.length (Array.toList (ByteArray.data (strOf (List.headD (Array.toList (Value.cells (at_ (elems v135) 0))) (Value.tuple ⟨[]⟩)))))) 1))))) = (125 : Int)))))
 Prog.fail
 (Nat.ble (Nat.succ (Int.toNat (IntKind.wrap IntKind.i64 (Int.subNatNat (List.length (Array.toList (ByteArray.data (strOf (List.headD (Array.toList (Value.cells (at_ (elems v135) 0))) (Value.tuple ⟨[]⟩)))))) 1)))) (List.length (Array.toList (ByteArray.data (strOf (List.headD (Array.toList (Value.cells (at_ (elems v133) 0))) (Value.tuple ⟨[]⟩))))))))
 Prog.fail
 (decide ((0 : Int) ≤ (IntKind.wrap IntKind.i64 (Int.subNatNat (List.length (Array.toList (ByteArray.data (strOf (List.headD (Array.toList (Value.cells (at_ (elems v135) 0))) (Value.tuple ⟨[]⟩)))))) 1)))))
 Prog.fail
 (okK Kd.str (List.headD (Array.toList (Value.cells (at_ (elems v135) 0))) (Value.tuple ⟨[]⟩))))
 Prog.fail
 (Nat.ble 1 (List.length (Array.toList (Value.cells (at_ (elems v135) 0))))))
 Prog.fail
 (((Nat.ble 1 (List.length (elems v135))) && Bool.true) && (hdOk 1 (elems v135))))
 Prog.fail
 (isLst v135))))
 Prog.fail
 (okK Kd.str (List.headD (Array.toList (Value.cells (at_ (elems v133) 0))) (Value.tuple ⟨[]⟩))))
 Prog.fail
 (Nat.ble 1 (List.length (Array.toList (Value.cells (at_ (elems v133) 0))))))
 Prog.fail
 (((Nat.ble 1 (List.length (elems v133))) && Bool.true) && (hdOk 1 (elems v133))))
 Prog.fail
 (isLst v133))))
 (Bool.not (decide ((Int.ofNat (byteAt (strOf (List.headD (Array.toList (Value.cells (at_ (elems v131) 0))) (Value.tuple ⟨[]⟩))) 0)) = (123 : Int)))))
 Prog.fail
 (Nat.ble 1 (List.length (Array.toList (ByteArray.data (strOf (List.headD (Array.toList (Value.cells (at_ (elems v131) 0))) (Value.tuple ⟨[]⟩))))))))
 Prog.fail
 (okK Kd.str (List.headD (Array.toList (Value.cells (at_ (elems v131) 0))) (Value.tuple ⟨[]⟩))))
 Prog.fail
 (Nat.ble 1 (List.length (Array.toList (Value.cells (at_ (elems v131) 0))))))
 Prog.fail
 (((Nat.ble 1 (List.length (elems v131))) && Bool.true) && (hdOk 1 (elems v131))))
 Prog.fail
 (isLst v131))))
 (decide ((Int.ofNat (List.length (Array.toList (ByteArray.data (strOf (List.headD (Array.toList (Value.cells (at_ (elems v129) 0))) (Value.tuple ⟨[]⟩))))))) < (2 : Int))))
 Prog.fail
 (okK Kd.str (List.headD (Array.toList (Value.cells (at_ (elems v129) 0))) (Value.tuple ⟨[]⟩))))
 Prog.fail
 (Nat.ble 1 (List.length (Array.toList (Value.cells (at_ (elems v129) 0))))))
 Prog.fail
 (((Nat.ble 1 (List.length (elems v129))) && Bool.true) && (hdOk 1 (elems v129))))
 Prog.fail
 (isLst v129))))
 (Bool.not (decide ((intOf v127) = (1 : Int)))))
 Prog.fail
 (okK (Kd.int IntKind.i64) v127))))
 Prog.fail
 (isLst v125)))
 (callP (fun v137 =>
 (cnd
 (cnd
 (callP (fun v138 =>
 (cnd
 (Prog.call (callF En (runP En f) 126 [(Value.agg ⟨((Value.int IntKind.i64 (intOf (at_ (aggOf v138) 0))) :: ((lstV (elems (at_ (aggOf v138) 1))) :: ((lstV (elems (at_ (aggOf v138) 2))) :: ((lstV (elems (at_ (aggOf v138) 3))) :: []))))⟩)]) fun v139 =>
 (cnd
 (Prog.ret (Value.bool (boolOf v139)))
 Prog.fail
 (okK Kd.bool v139)))
 Prog.fail
 ((isAggV v138) && (okKs ((Kd.int IntKind.i64) :: (Kd.lst :: (Kd.lst :: (Kd.lst :: [])))) (aggOf v138)))))
 (loadT En 32 (blkOf v86) (offOf v86)))
 (callP (fun v140 =>
 (cnd
 (cnd
 (callP (fun v141 =>
 (cnd
 (Prog.call (callF En (runP En f) 127 [(Value.agg ⟨((Value.int IntKind.i64 (intOf (at_ (aggOf v141) 0))) :: ((lstV (elems (at_ (aggOf v141) 1))) :: ((lstV (elems (at_ (aggOf v141) 2))) :: ((lstV (elems (at_ (aggOf v141) 3))) :: []))))⟩)]) fun v142 =>
 (cnd
 (Prog.ret (Value.bool (boolOf v142)))
 Prog.fail
 (okK Kd.bool v142)))
 Prog.fail
 ((isAggV v141) && (okKs ((Kd.int IntKind.i64) :: (Kd.lst :: (Kd.lst :: (Kd.lst :: [])))) (aggOf v141)))))
 (loadT En 32 (blkOf v86) (offOf v86)))
 (callP (fun v143 =>
 (cnd
 (cnd
 (callP (fun v144 =>
 (cnd
 (cnd
 (callP (fun v145 =>
 (cnd
 (cnd
 (cnd
 (cnd
 (Prog.call (callF En (runP En f) 128 [(Value.agg ⟨((Value.int IntKind.i64 (intOf (at_ (List.take 4 (Array.toList (Value.cells (at_ (elems v145) 0)))) 0))) :: ((lstV (elems (at_ (List.take 4 (Array.toList (Value.cells (at_ (elems v145) 0)))) 1))) :: ((lstV (elems (at_ (List.take 4 (Array.toList (Value.cells (at_ (elems v145) 0)))) 2))) :: ((lstV (elems (at_ (List.take 4 (Array.toList (Value.cells (at_ (elems v145) 0)))) 3))) :: []))))⟩)]) fun v146 =>
 (cnd
 (cnd
 (callP (fun v147 =>
 (cnd
 (cnd
 (cnd
 (cnd
 (Prog.call (callF En (runP En f) 128 [(Value.agg ⟨((Value.int IntKind.i64 (intOf (at_ (List.take 4 (Array.toList (Value.cells (at_ (elems v147) 1)))) 0))) :: ((lstV (elems (at_ (List.take 4 (Array.toList (Value.cells (at_ (elems v147) 1)))) 1))) :: ((lstV (elems (at_ (List.take 4 (Array.toList (Value.cells (at_ (elems v147) 1)))) 2))) :: ((lstV (elems (at_ (List.take 4 (Array.toList (Value.cells (at_ (elems v147) 1)))) 3))) :: []))))⟩)]) fun v148 =>
 (cnd
 (cnd
 (Prog.ret (Value.bool Bool.true))
 (callP (fun v149 =>
 (cnd
 (cnd
 (cnd
 (cnd
 (cnd
 (cnd
 (callP (fun v150 =>
 (cnd
 (cnd
 (cnd
 (cnd
 (cnd
 (Prog.ret (Value.bool (decide ((intOf (List.headD (Array.toList (Value.cells (at_ (elems v150) 1))) (Value.tuple ⟨[]⟩))) = (98 : Int)))))
 Prog.fail
 (okK (Kd.int IntKind.i64) (List.headD (Array.toList (Value.cells (at_ (elems v150) 1))) (Value.tuple ⟨[]⟩))))
 Prog.fail
 (Nat.ble 1 (List.length (Array.toList (Value.cells (at_ (elems v150) 1))))))
 Prog.fail
 (Nat.ble 1 (List.length (Array.toList (Value.cells (at_ (elems v150) 1))))))
 Prog.fail
 (((Nat.ble 2 (List.length (elems v150))) && Bool.true) && (hdOk 4 (elems v150))))
 Prog.fail
 (isLst v150)))
 (loadT En 30 (blkOf v86) ((offOf v86) + 3)))
 (Prog.ret (Value.bool Bool.false))
 (decide ((intOf (List.headD (Array.toList (Value.cells (at_ (elems v149) 0))) (Value.tuple ⟨[]⟩))) = (98 : Int))))
 Prog.fail
 (okK (Kd.int IntKind.i64) (List.headD (Array.toList (Value.cells (at_ (elems v149) 0))) (Value.tuple ⟨[]⟩))))
 Prog.fail
 (Nat.ble 1 (List.length (Array.toList (Value.cells (at_ (elems v149) 0))))))
 Prog.fail
 (Nat.ble 1 (List.length (Array.toList (Value.cells (at_ (elems v149) 0))))))
 Prog.fail
 (((Nat.ble 1 (List.length (elems v149))) && Bool.true) && (hdOk 4 (elems v149))))
 Prog.fail
 (isLst v149)))
 (loadT En 30 (blkOf v86) ((offOf v86) + 3)))
 (boolOf v148))
 Prog.fail
 (okK Kd.bool v148)))
 Prog.fail
 (okKs ((Kd.int IntKind.i64) :: (Kd.lst :: (Kd.lst :: (Kd.lst :: [])))) (List.take 4 (Array.toList (Value.cells (at_ (elems v147) 1))))))
 Prog.fail
 (Nat.ble 4 (List.length (Array.toList (Value.cells (at_ (elems v147) 1))))))
 Prog.fail
 (((Nat.ble 2 (List.length (elems v147))) && Bool.true) && (hdOk 4 (elems v147))))
 Prog.fail
 (isLst v147)))
 (loadT En 30 (blkOf v86) ((offOf v86) + 3)))
 (callP (fun v151 =>
 (cnd
 (cnd
 (cnd
 (cnd
 (cnd
 (cnd
 (callP (fun v152 =>
 (cnd
 (cnd
 (cnd
 (cnd
 (cnd
 (Prog.ret (Value.bool (decide ((intOf (List.headD (Array.toList (Value.cells (at_ (elems v152) 1))) (Value.tuple ⟨[]⟩))) = (98 : Int)))))
 Prog.fail
 (okK (Kd.int IntKind.i64) (List.headD (Array.toList (Value.cells (at_ (elems v152) 1))) (Value.tuple ⟨[]⟩))))
 Prog.fail
 (Nat.ble 1 (List.length (Array.toList (Value.cells (at_ (elems v152) 1))))))
 Prog.fail
 (Nat.ble 1 (List.length (Array.toList (Value.cells (at_ (elems v152) 1))))))
 Prog.fail
 (((Nat.ble 2 (List.length (elems v152))) && Bool.true) && (hdOk 4 (elems v152))))
 Prog.fail
 (isLst v152)))
 (loadT En 30 (blkOf v86) ((offOf v86) + 3)))
 (Prog.ret (Value.bool Bool.false))
 (decide ((intOf (List.headD (Array.toList (Value.cells (at_ (elems v151) 0))) (Value.tuple ⟨[]⟩))) = (98 : Int))))
 Prog.fail
 (okK (Kd.int IntKind.i64) (List.headD (Array.toList (Value.cells (at_ (elems v151) 0))) (Value.tuple ⟨[]⟩))))
 Prog.fail
 (Nat.ble 1 (List.length (Array.toList (Value.cells (at_ (elems v151) 0))))))
 Prog.fail
 (Nat.ble 1 (List.length (Array.toList (Value.cells (at_ (elems v151) 0))))))
 Prog.fail
 (((Nat.ble 1 (List.length (elems v151))) && Bool.true) && (hdOk 4 (elems v151))))
 Prog.fail
 (isLst v151)))
 (loadT En 30 (blkOf v86) ((offOf v86) + 3)))
 (boolOf v146))
 Prog.fail
 (okK Kd.bool v146)))
 Prog.fail
 (okKs ((Kd.int IntKind.i64) :: (Kd.lst :: (Kd.lst :: (Kd.lst :: [])))) (List.take 4 (Array.toList (Value.cells (at_ (elems v145) 0))))))
 Prog.fail
 (Nat.ble 4 (List.length (Array.toList (Value.cells (at_ (elems v145) 0))))))
 Prog.fail
 (((Nat.ble 1 (List.length (elems v145))) && Bool.true) && (hdOk 4 (elems v145))))
 Prog.fail
 (isLst v145)))
 (loadT En 30 (blkOf v86) ((offOf v86) + 3)))
 (Prog.ret (Value.bool Bool.false))
 (decide ((Int.ofNat (List.length (elems v144))) = (2 : Int))))
 Prog.fail
 (isLst v144)))
 (loadT En 30 (blkOf v86) ((offOf v86) + 3)))
 (p71_18 f (blkOf v86) (offOf v86))
 (decide ((intOf v143) = (99 : Int))))
 Prog.fail
 (okK (Kd.int IntKind.i64) v143)))
 (loadT En 3 (blkOf v86) ((offOf v86) + 0)))
 (decide ((intOf v140) = (98 : Int))))
 Prog.fail
 (okK (Kd.int IntKind.i64) v140)))
 (loadT En 3 (blkOf v86) ((offOf v86) + 0)))
 (decide ((intOf v137) = (0 : Int))))
 Prog.fail
 (okK (Kd.int IntKind.i64) v137)))
 (loadT En 3 (blkOf v86) ((offOf v86) + 0)))
 (decide ((intOf v124) = (100 : Int))))
 Prog.fail
 (okK (Kd.int IntKind.i64) v124)))
 (loadT En 3 (blkOf v86) ((offOf v86) + 0)))
 (decide ((intOf v123) = (1 : Int))))
 Prog.fail
 (okK (Kd.int IntKind.i64) v123)))
 Prog.fail
 (okK (Kd.int IntKind.i64) v122)))
 (loadT En 3 (blkOf v86) ((offOf v86) + 0)))
 (boolOf v88))
 Prog.fail
 (okK Kd.bool v88)))
 Prog.fail
 ((isAggV v87) && (okKs ((Kd.int IntKind.i64) :: (Kd.lst :: (Kd.lst :: (Kd.lst :: [])))) (aggOf v87)))))
 (loadT En 32 (blkOf v86) (offOf v86)))
 Prog.fail
 (isPt v86)))
 (Prog.newH (Hdr.mk 4 32 Bool.false Bool.true Bool.true 0 Bool.false Bool.false []) ((Value.int IntKind.i64 x0_0) :: ((lstV x0_1) :: ((lstV x0_2) :: ((lstV x0_3) :: [])))) (fun z85 => (Prog.ret (itP z85)))))) := by kernel_rfl
end Go.Proofs.YtmjbmbmnnephjaaGreatDoor
/- What comes of the points of a function: printed by the tool. -/
namespace Go.Proofs.YtmjbmbmnnephjaaGreatDoor
open Go Go.Ev Go.Proofs
set_option maxRecDepth 8000
set_option linter.unusedVariables false
theorem f73_eq (f : Nat) (x0 : ByteArray) : callF En (runP En (f + 1)) 73 [(Value.string x0)] =
 (cnd
 (cnd
 (Prog.ret (Value.string (mkStr ((96 : UInt8) :: (Array.toList (ByteArray.data x0))))))
 Prog.fail
 (Nat.ble (1 + (List.length (Array.toList (ByteArray.data x0)))) 9223372036854775807))
 (Prog.call (callF En (runP En f) 76 [(Value.string x0)]) fun v3 =>
 (cnd
 (cnd
 (cnd
 (Prog.ret (Value.string (mkStr ((96 : UInt8) :: (Array.toList (ByteArray.data x0))))))
 Prog.fail
 (Nat.ble (1 + (List.length (Array.toList (ByteArray.data x0)))) 9223372036854775807))
 (Prog.call (callF En (runP En f) 42 [(Value.string x0)]) fun v4 =>
 (cnd
 (cnd
 (Prog.ret (Value.string (mkStr ((96 : UInt8) :: (Array.toList (ByteArray.data (strOf v4)))))))
 Prog.fail
 (Nat.ble (1 + (List.length (Array.toList (ByteArray.data (strOf v4))))) 9223372036854775807))
 Prog.fail
 (okK Kd.str v4)))
 (boolOf v3))
 Prog.fail
 (okK Kd.bool v3)))
 (beqB (Array.toList (ByteArray.data x0)) [])) := by kernel_rfl
end Go.Proofs.YtmjbmbmnnephjaaGreatDoor
/- What comes of the points of a function: printed by the tool. -/
namespace Go.Proofs.YtmjbmbmnnephjaaGreatDoor
open Go Go.Ev Go.Proofs
set_option maxRecDepth 8000
set_option linter.unusedVariables false
noncomputable def p74_3 (f : Nat) (x0 : Int) (x1 : Int) : Prog := runP En f 74 (tmL 38 [(0, (Value.int IntKind.i64 x0)), (1, (Value.int IntKind.i64 x1))]) [.code (cL (cR (cR (cB 74)))), .code (cR (cR (cR (cB 74))))] [] none
theorem p74_3_eq (f : Nat) (x0 : Int) (x1 : Int) : p74_3 (f + 1) x0 x1 =
 (cnd
 (Prog.call (callF En (runP En f) 130 [(Value.int IntKind.i64 x1)]) fun v1 =>
 (cnd
 (cnd
 (Prog.ret (Value.string (mkStr ((Array.toList (ByteArray.data (strOf v1))) ++ ((98 : UInt8) :: [])))))
 Prog.fail
 (Nat.ble ((List.length (Array.toList (ByteArray.data (strOf v1)))) + 1) 9223372036854775807))
 Prog.fail
 (okK Kd.str v1)))
 (cnd
 (cnd
 (Prog.ret (Value.string (mkStr [48, 78])))
 (Prog.call (callF En (runP En f) 130 [(Value.int IntKind.i64 x1)]) fun v2 =>
 (cnd
 (Prog.ret (Value.string (strOf v2)))
 Prog.fail
 (okK Kd.str v2)))
 (decide (x1 = (-9223372036854775808 : Int))))
 (cnd
 (cnd
 (Prog.ret (Value.string (mkStr [48, 78, 116])))
 (Prog.call (callF En (runP En f) 130 [(Value.int IntKind.i64 x1)]) fun v3 =>
 (cnd
 (cnd
 (Prog.ret (Value.string (mkStr ((Array.toList (ByteArray.data (strOf v3))) ++ ((116 : UInt8) :: [])))))
 Prog.fail
 (Nat.ble ((List.length (Array.toList (ByteArray.data (strOf v3)))) + 1) 9223372036854775807))
 Prog.fail
 (okK Kd.str v3)))
 (decide (x1 = (-9223372036854775808 : Int))))
 (cnd
 (cnd
 (Prog.ret (Value.string (mkStr [48, 78, 100])))
 (Prog.call (callF En (runP En f) 131 [(Value.int IntKind.i64 x1)]) fun v4 =>
 (cnd
 (Prog.ret (Value.string (strOf v4)))
 Prog.fail
 (okK Kd.str v4)))
 (decide (x1 = (-9223372036854775808 : Int))))
 (Prog.ret (Value.string (mkStr [])))
 (decide (x0 = (5 : Int))))
 (decide (x0 = (4 : Int))))
 (decide (x0 = (2 : Int))))
 (decide (x0 = (1 : Int)))) := by kernel_rfl
theorem f74_eq (f : Nat) (x0 : Int) (x1 : Int) : callF En (runP En (f + 1)) 74 [(Value.int IntKind.i64 x0), (Value.int IntKind.i64 x1)] =
 (cnd
 (cnd
 (p74_3 f (IntKind.wrap IntKind.i64 ((0 : Int) + (Int.neg x0))) x1)
 (p74_3 f x0 x1)
 (decide (x0 ≥ (-5 : Int))))
 (p74_3 f x0 x1)
 (decide (x0 < (0 : Int)))) := by kernel_rfl
end Go.Proofs.YtmjbmbmnnephjaaGreatDoor
/- What comes of the points of a function: printed by the tool. -/
namespace Go.Proofs.YtmjbmbmnnephjaaGreatDoor
open Go Go.Ev Go.Proofs
set_option maxRecDepth 8000
set_option linter.unusedVariables false
noncomputable def p75_6 (f : Nat) (x0 : Value) (x3 : Nat) (x3o : Nat) (x5 : Int) : Prog := runP En f 75 (tmL 78 [(0, x0), (3, (Value.pointer (Option.some (Addr.mk x3 x3o Option.none)))), (5, (Value.int IntKind.i64 x5))]) [.code (cL (cL (cR (cR (cR (cR (cB 75))))))), .code (cR (cL (cR (cR (cR (cR (cB 75))))))), .code (cR (cR (cR (cR (cR (cB 75))))))] [] none
noncomputable def p75_7 (f : Nat) (x0 : Value) (x3 : Nat) (x3o : Nat) (x5 : Int) (x6 : Int) : Prog := runP En f 75 (tmL 78 [(0, x0), (3, (Value.pointer (Option.some (Addr.mk x3 x3o Option.none)))), (5, (Value.int IntKind.i64 x5)), (6, (Value.int IntKind.i64 x6))]) [.code (cL (cL (cI (cI (cR (cL (cR (cR (cR (cR (cB 75))))))))))), .code (cR (cL (cI (cI (cR (cL (cR (cR (cR (cR (cB 75))))))))))), .code (cR (cI (cI (cR (cL (cR (cR (cR (cR (cB 75)))))))))), .inLoop (cI (cI (cR (cL (cR (cR (cR (cR (cB 75))))))))), .inBlock 0, .code (cR (cR (cR (cR (cR (cB 75))))))] [] none
noncomputable def p75_8 (f : Nat) (x0 : Value) (x3 : Nat) (x3o : Nat) (x5 : Int) (x6 : Int) : Prog := runP En f 75 (tmL 78 [(0, x0), (3, (Value.pointer (Option.some (Addr.mk x3 x3o Option.none)))), (5, (Value.int IntKind.i64 x5)), (6, (Value.int IntKind.i64 x6))]) [.code (cR (cR (cI (cI (cR (cL (cR (cR (cR (cR (cB 75))))))))))), .inLoop (cI (cI (cR (cL (cR (cR (cR (cR (cB 75))))))))), .inBlock 0, .code (cR (cR (cR (cR (cR (cB 75))))))] [] none
noncomputable def p75_11 (f : Nat) (x0 : Value) (x3 : Nat) (x3o : Nat) (x5 : Int) (x6 : Int) : Prog := runP En f 75 (tmL 78 [(0, x0), (3, (Value.pointer (Option.some (Addr.mk x3 x3o Option.none)))), (5, (Value.int IntKind.i64 x5)), (6, (Value.int IntKind.i64 x6))]) [.code (cR (cR (cR (cR (cR (cI (cI (cL (cR (cI (cI (cR (cL (cR (cR (cR (cR (cB 75)))))))))))))))))), .inBlock 2, .inBlock 1, .code (cR (cR (cI (cI (cR (cL (cR (cR (cR (cR (cB 75))))))))))), .inLoop (cI (cI (cR (cL (cR (cR (cR (cR (cB 75))))))))), .inBlock 0, .code (cR (cR (cR (cR (cR (cB 75))))))] [] none
noncomputable def p75_18 (f : Nat) (x0 : Value) : Prog := runP En f 75 (tmL 78 [(0, x0)]) [.code (cL (cR (cR (cR (cR (cR (cR (cB 75)))))))), .code (cR (cR (cR (cR (cR (cR (cR (cB 75))))))))] [] none
theorem p75_6_eq (f : Nat) (x0 : Value) (x3 : Nat) (x3o : Nat) (x5 : Int) : p75_6 (f + 1) x0 x3 x3o x5 =
 (p75_7 f x0 x3 x3o x5 (0 : Int)) := by kernel_rfl
theorem p75_7_eq (f : Nat) (x0 : Value) (x3 : Nat) (x3o : Nat) (x5 : Int) (x6 : Int) : p75_7 (f + 1) x0 x3 x3o x5 x6 =
 (cnd
 (callP (fun v27 =>
 (cnd
 (cnd
 (callP (fun v28 =>
 (cnd
 (cnd
 (cnd
 (cnd
 (cnd
 (Prog.call (callF En (runP En f) 73 [(Value.string (strOf (List.headD (Array.toList (Value.cells (at_ (elems v28) (Int.toNat x6)))) (Value.tuple ⟨[]⟩))))]) fun v29 =>
 (cnd
 (callP (fun v30 =>
 (p75_8 f v30 x3 x3o x5 x6))
 (builtinA En Builtin.append (65 :: (9 :: [])) (x0 :: ((Value.string (strOf v29)) :: []))))
 Prog.fail
 (okK Kd.str v29)))
 Prog.fail
 (okK Kd.str (List.headD (Array.toList (Value.cells (at_ (elems v28) (Int.toNat x6)))) (Value.tuple ⟨[]⟩))))
 Prog.fail
 (Nat.ble 1 (List.length (Array.toList (Value.cells (at_ (elems v28) (Int.toNat x6)))))))
 Prog.fail
 (((Nat.ble (Nat.succ (Int.toNat x6)) (List.length (elems v28))) && Bool.true) && (hdOk 1 (elems v28))))
 Prog.fail
 (decide ((0 : Int) ≤ x6)))
 Prog.fail
 (isLst v28)))
 (loadT En 29 x3 (x3o + 2)))
 (callP (fun v31 =>
 (cnd
 (cnd
 (callP (fun v32 =>
 (cnd
 (cnd
 (cnd
 (cnd
 (cnd
 (callP (fun v33 =>
 (p75_8 f v33 x3 x3o x5 x6))
 (builtinA En Builtin.append (65 :: (65 :: [])) (x0 :: ((xlstV ((Value.int IntKind.u8 (IntKind.wrap IntKind.u8 (IntKind.wrap IntKind.i64 ((48 : Int) + (intOf (List.headD (Array.toList (Value.cells (at_ (elems v32) (Int.toNat x6)))) (Value.tuple ⟨[]⟩))))))) :: [])) :: []))))
 Prog.fail
 (okK (Kd.int IntKind.i64) (List.headD (Array.toList (Value.cells (at_ (elems v32) (Int.toNat x6)))) (Value.tuple ⟨[]⟩))))
 Prog.fail
 (Nat.ble 1 (List.length (Array.toList (Value.cells (at_ (elems v32) (Int.toNat x6)))))))
 Prog.fail
 (((Nat.ble (Nat.succ (Int.toNat x6)) (List.length (elems v32))) && Bool.true) && (hdOk 1 (elems v32))))
 Prog.fail
 (decide ((0 : Int) ≤ x6)))
 Prog.fail
 (isLst v32)))
 (loadT En 28 x3 (x3o + 1)))
 (cnd
 (callP (fun v34 =>
 (p75_11 f v34 x3 x3o x5 x6))
 (builtinA En Builtin.append (65 :: (65 :: [])) (x0 :: ((xlstV ((Value.int IntKind.u8 (32 : Int)) :: [])) :: []))))
 (p75_11 f x0 x3 x3o x5 x6)
 (decide (x6 > (0 : Int))))
 (decide ((intOf v31) = (1 : Int))))
 Prog.fail
 (okK (Kd.int IntKind.i64) v31)))
 (loadT En 3 x3 (x3o + 0)))
 (decide ((intOf v27) = (3 : Int))))
 Prog.fail
 (okK (Kd.int IntKind.i64) v27)))
 (loadT En 3 x3 (x3o + 0)))
 (callP (fun v35 =>
 (cnd
 (cnd
 (callP (fun v36 =>
 (p75_18 f v36))
 (builtinA En Builtin.append (65 :: (65 :: [])) (x0 :: ((xlstV ((Value.int IntKind.u8 (98 : Int)) :: [])) :: []))))
 (p75_18 f x0)
 (decide ((intOf v35) = (1 : Int))))
 Prog.fail
 (okK (Kd.int IntKind.i64) v35)))
 (loadT En 3 x3 (x3o + 0)))
 (decide (x6 < x5))) := by kernel_rfl
theorem p75_8_eq (f : Nat) (x0 : Value) (x3 : Nat) (x3o : Nat) (x5 : Int) (x6 : Int) : p75_8 (f + 1) x0 x3 x3o x5 x6 =
 (p75_7 f x0 x3 x3o x5 (IntKind.wrap IntKind.i64 (x6 + (1 : Int)))) := by kernel_rfl
theorem p75_11_eq (f : Nat) (x0 : Value) (x3 : Nat) (x3o : Nat) (x5 : Int) (x6 : Int) : p75_11 (f + 1) x0 x3 x3o x5 x6 =
 (Prog.seg (loadT En 3 x3 (x3o + 0)) fun v37 s38 _ =>
 (cnd
 (Prog.seg (loadT En 28 x3 (x3o + 1)) fun v39 s40 _ =>
 (gdL 8 (writesOf s40) s40 [⟨2, writesOf s38, s38⟩]
 (cnd
 (cnd
 (cnd
 (cnd
 (cnd
 (Prog.seg (callF En (runP En f) 74 [(Value.int IntKind.i64 (intOf v37)), (Value.int IntKind.i64 (intOf (List.headD (Array.toList (Value.cells (at_ (elems v39) (Int.toNat x6)))) (Value.tuple ⟨[]⟩))))]) fun v41 s42 _ =>
 (gdL 254 (writesOf s42) s42 [⟨4, writesOf s40, s40⟩, ⟨2, writesOf s38, s38⟩]
 (cnd
 (Prog.seg (builtinA En Builtin.append (65 :: (9 :: [])) (x0 :: ((Value.string (strOf v41)) :: []))) fun v43 s44 _ =>
 (gdL 511 (writesOf s44) s44 [⟨8, writesOf s42, s42⟩, ⟨4, writesOf s40, s40⟩, ⟨2, writesOf s38, s38⟩]
 (p75_8 f v43 x3 x3o x5 x6)))
 Prog.fail
 (okK Kd.str v41))))
 Prog.fail
 (okK (Kd.int IntKind.i64) (List.headD (Array.toList (Value.cells (at_ (elems v39) (Int.toNat x6)))) (Value.tuple ⟨[]⟩))))
 Prog.fail
 (Nat.ble 1 (List.length (Array.toList (Value.cells (at_ (elems v39) (Int.toNat x6)))))))
 Prog.fail
 (((Nat.ble (Nat.succ (Int.toNat x6)) (List.length (elems v39))) && Bool.true) && (hdOk 1 (elems v39))))
 Prog.fail
 (decide ((0 : Int) ≤ x6)))
 Prog.fail
 (isLst v39))))
 Prog.fail
 (okK (Kd.int IntKind.i64) v37))) := by kernel_rfl
theorem p75_18_eq (f : Nat) (x0 : Value) : p75_18 (f + 1) x0 =
 (Prog.ret x0) := by kernel_rfl
theorem f75_eq (f : Nat) (x0 : Value) (x1_0 : Int) (x1_1 : List Value) (x1_2 : List Value) (x1_3 : List Value) : callF En (runP En (f + 1)) 75 [x0, (Value.agg ⟨((Value.int IntKind.i64 x1_0) :: ((lstV x1_1) :: ((lstV x1_2) :: ((lstV x1_3) :: []))))⟩)] =
 (gd Bool.true
 (callP (fun v46 =>
 (cnd
 (callP (fun v47 =>
 (cnd
 (Prog.call (callF En (runP En f) 16 [(Value.agg ⟨((Value.int IntKind.i64 (intOf (at_ (aggOf v47) 0))) :: ((lstV (elems (at_ (aggOf v47) 1))) :: ((lstV (elems (at_ (aggOf v47) 2))) :: ((lstV (elems (at_ (aggOf v47) 3))) :: []))))⟩)]) fun v48 =>
 (cnd
 (cnd
 (callP (fun v49 =>
 (cnd
 (callP (fun v50 =>
 (cnd
 (cnd
 (cnd
 (cnd
 (cnd
 (callP (fun v51 =>
 (Prog.ret v51))
 (builtinA En Builtin.append (65 :: (9 :: [])) (x0 :: ((Value.string (mkStr ((40 : UInt8) :: ((41 : UInt8) :: (List.take ((Int.toNat (IntKind.wrap IntKind.i64 ((intOf v50) + (1 : Int)))) - (Int.toNat (intOf v49))) (List.drop (Int.toNat (intOf v49)) ((63 : UInt8) :: ((98 : UInt8) :: ((105 : UInt8) :: ((115 : UInt8) :: ((116 : UInt8) :: ((100 : UInt8) :: [])))))))))))) :: []))))
 Prog.fail
 (Nat.ble (2 + (List.length (List.take ((Int.toNat (IntKind.wrap IntKind.i64 ((intOf v50) + (1 : Int)))) - (Int.toNat (intOf v49))) (List.drop (Int.toNat (intOf v49)) ((63 : UInt8) :: ((98 : UInt8) :: ((105 : UInt8) :: ((115 : UInt8) :: ((116 : UInt8) :: ((100 : UInt8) :: [])))))))))) 9223372036854775807))
 Prog.fail
 ((Nat.ble (Int.toNat (intOf v49)) (Int.toNat (IntKind.wrap IntKind.i64 ((intOf v50) + (1 : Int))))) && (Nat.ble (Int.toNat (IntKind.wrap IntKind.i64 ((intOf v50) + (1 : Int)))) 6)))
 Prog.fail
 (decide ((0 : Int) ≤ (IntKind.wrap IntKind.i64 ((intOf v50) + (1 : Int))))))
 Prog.fail
 (decide ((0 : Int) ≤ (intOf v49))))
 Prog.fail
 (okK (Kd.int IntKind.i64) v50)))
 (loadT En 3 (blkOf v46) ((offOf v46) + 0)))
 Prog.fail
 (okK (Kd.int IntKind.i64) v49)))
 (loadT En 3 (blkOf v46) ((offOf v46) + 0)))
 (cnd
 (callP (fun v52 =>
 (p75_6 f v52 (blkOf v46) (offOf v46) (intOf v48)))
 (builtinA En Builtin.append (65 :: (65 :: [])) (x0 :: ((xlstV ((Value.int IntKind.u8 (44 : Int)) :: [])) :: []))))
 (p75_6 f x0 (blkOf v46) (offOf v46) (intOf v48))
 (decide ((intOf v48) = (1 : Int))))
 (decide ((intOf v48) = (0 : Int))))
 Prog.fail
 (okK (Kd.int IntKind.i64) v48)))
 Prog.fail
 ((isAggV v47) && (okKs ((Kd.int IntKind.i64) :: (Kd.lst :: (Kd.lst :: (Kd.lst :: [])))) (aggOf v47)))))
 (loadT En 32 (blkOf v46) (offOf v46)))
 Prog.fail
 (isPt v46)))
 (Prog.newH (Hdr.mk 4 32 Bool.false Bool.true Bool.true 0 Bool.false Bool.false []) ((Value.int IntKind.i64 x1_0) :: ((lstV x1_1) :: ((lstV x1_2) :: ((lstV x1_3) :: [])))) (fun z45 => (Prog.ret (itP z45)))))) := by kernel_rfl
end Go.Proofs.YtmjbmbmnnephjaaGreatDoor
/- What comes of the points of a function: printed by the tool. -/
namespace Go.Proofs.YtmjbmbmnnephjaaGreatDoor
open Go Go.Ev Go.Proofs
set_option maxRecDepth 8000
set_option linter.unusedVariables false
noncomputable def p76_4 (f : Nat) (x0 : ByteArray) (x3 : Int) : Prog := runP En f 76 (tmL 23 [(0, (Value.string x0)), (3, (Value.int IntKind.i64 x3))]) [.code (cL (cL (cI (cI (cR (cL (cR (cR (cB 76))))))))), .code (cR (cL (cI (cI (cR (cL (cR (cR (cB 76))))))))), .code (cR (cI (cI (cR (cL (cR (cR (cB 76)))))))), .inLoop (cI (cI (cR (cL (cR (cR (cB 76))))))), .inBlock 0, .code (cR (cR (cR (cB 76))))] [] none
theorem p76_4_eq (f : Nat) (x0 : ByteArray) (x3 : Int) : p76_4 (f + 1) x0 x3 =
 (cnd
 (cnd
 (cnd
 (Prog.call (callF En (runP En f) 133 [(Value.int IntKind.u8 (Int.ofNat (byteAt x0 (Int.toNat x3))))]) fun v2 =>
 (cnd
 (cnd
 (Prog.ret (Value.bool Bool.false))
 (p76_4 f x0 (IntKind.wrap IntKind.i64 (x3 + (1 : Int))))
 (Bool.not (boolOf v2)))
 Prog.fail
 (okK Kd.bool v2)))
 Prog.fail
 (Nat.ble (Nat.succ (Int.toNat x3)) (List.length (Array.toList (ByteArray.data x0)))))
 Prog.fail
 (decide ((0 : Int) ≤ x3)))
 (Prog.ret (Value.bool Bool.true))
 (decide (x3 < (Int.ofNat (List.length (Array.toList (ByteArray.data x0))))))) := by kernel_rfl
theorem f76_eq (f : Nat) (x0 : ByteArray) : callF En (runP En (f + 1)) 76 [(Value.string x0)] =
 (cnd
 (Prog.ret (Value.bool Bool.false))
 (cnd
 (Prog.call (callF En (runP En f) 132 [(Value.int IntKind.u8 (Int.ofNat (byteAt x0 0)))]) fun v3 =>
 (cnd
 (cnd
 (Prog.ret (Value.bool Bool.false))
 (p76_4 f x0 (0 : Int))
 (Bool.not (boolOf v3)))
 Prog.fail
 (okK Kd.bool v3)))
 Prog.fail
 (Nat.ble 1 (List.length (Array.toList (ByteArray.data x0)))))
 (beqB (Array.toList (ByteArray.data x0)) [])) := by kernel_rfl
end Go.Proofs.YtmjbmbmnnephjaaGreatDoor
/- What comes of the points of a function: printed by the tool. -/
namespace Go.Proofs.YtmjbmbmnnephjaaGreatDoor
open Go Go.Ev Go.Proofs
set_option maxRecDepth 8000
set_option linter.unusedVariables false
end Go.Proofs.YtmjbmbmnnephjaaGreatDoor
/- What comes of the points of a function: printed by the tool. -/
namespace Go.Proofs.YtmjbmbmnnephjaaGreatDoor
open Go Go.Ev Go.Proofs
set_option maxRecDepth 8000
set_option linter.unusedVariables false
end Go.Proofs.YtmjbmbmnnephjaaGreatDoor
/- What comes of the points of a function: printed by the tool. -/
namespace Go.Proofs.YtmjbmbmnnephjaaGreatDoor
open Go Go.Ev Go.Proofs
set_option maxRecDepth 8000
set_option linter.unusedVariables false
theorem f79_eq (f : Nat) (x0 : Int) : callF En (runP En (f + 1)) 79 [(Value.int IntKind.u8 x0)] =
 (cnd
 (cnd
 (cnd
 (Prog.ret (Value.bool (Bool.not (decide (x0 = (92 : Int))))))
 (Prog.ret (Value.bool Bool.false))
 (Bool.not (decide (x0 = (34 : Int)))))
 (Prog.ret (Value.bool Bool.false))
 (decide (x0 ≤ (126 : Int))))
 (Prog.ret (Value.bool Bool.false))
 (decide (x0 ≥ (32 : Int)))) := by kernel_rfl
end Go.Proofs.YtmjbmbmnnephjaaGreatDoor
/- What comes of the points of a function: printed by the tool. -/
namespace Go.Proofs.YtmjbmbmnnephjaaGreatDoor
open Go Go.Ev Go.Proofs
set_option maxRecDepth 8000
set_option linter.unusedVariables false
noncomputable def p113_2 (f : Nat) (x0 : ByteArray) (x2 : Nat) (x2o : Nat) (x4 : Int) : Prog := runP En f 113 (tmL 21 [(0, (Value.string x0)), (2, (Value.pointer (Option.some (Addr.mk x2 x2o Option.none)))), (4, (Value.int IntKind.i64 x4))]) [.code (cL (cL (cI (cI (cR (cL (cR (cB 113)))))))), .code (cR (cL (cI (cI (cR (cL (cR (cB 113)))))))), .code (cR (cI (cI (cR (cL (cR (cB 113))))))), .inLoop (cI (cI (cR (cL (cR (cB 113)))))), .inBlock 0, .code (cR (cR (cB 113)))] [] none
theorem p113_2_eq (f : Nat) (x0 : ByteArray) (x2 : Nat) (x2o : Nat) (x4 : Int) : p113_2 (f + 1) x0 x2 x2o x4 =
 (cnd
 (cnd
 (cnd
 (cnd
 (callP (fun v3 =>
 (callP (fun v4 =>
 (Prog.call (loadT En 116 x2 x2o) fun v5 =>
 (Prog.ret (Value.tuple ⟨(v5 :: ((Value.bool Bool.false) :: []))⟩))))
 (storeT En 116 x2 x2o v3)))
 (loadT En 116 x2 x2o))
 (cnd
 (callP (fun v6 =>
 (p113_2 f x0 x2 x2o (IntKind.wrap IntKind.i64 (x4 + (1 : Int)))))
 (storeT En 4 x2 (x2o + ((byteAt x0 (Int.toNat x4)) * 1)) (Value.bool Bool.true)))
 Prog.fail
 ((Nat.ble (Nat.succ (byteAt x0 (Int.toNat x4))) 256) && Bool.true))
 (decide ((Int.ofNat (byteAt x0 (Int.toNat x4))) ≥ (128 : Int))))
 Prog.fail
 (Nat.ble (Nat.succ (Int.toNat x4)) (List.length (Array.toList (ByteArray.data x0)))))
 Prog.fail
 (decide ((0 : Int) ≤ x4)))
 (callP (fun v7 =>
 (callP (fun v8 =>
 (Prog.call (loadT En 116 x2 x2o) fun v9 =>
 (Prog.ret (Value.tuple ⟨(v9 :: ((Value.bool Bool.true) :: []))⟩))))
 (storeT En 116 x2 x2o v7)))
 (loadT En 116 x2 x2o))
 (decide (x4 < (Int.ofNat (List.length (Array.toList (ByteArray.data x0))))))) := by kernel_rfl
end Go.Proofs.YtmjbmbmnnephjaaGreatDoor
/- What comes of the points of a function: printed by the tool. -/
namespace Go.Proofs.YtmjbmbmnnephjaaGreatDoor
open Go Go.Ev Go.Proofs
set_option maxRecDepth 8000
set_option linter.unusedVariables false
noncomputable def p114_1 (f : Nat) (x0 : ByteArray) (x1 : Nat) : Prog := runP En f 114 (tmL 22 [(0, (Value.string x0)), (1, (Value.pointer (Option.some (Addr.mk x1 0 Option.none))))]) [.code (cL (cL (cI (cI (cL (cR (cB 114))))))), .code (cR (cL (cI (cI (cL (cR (cB 114))))))), .code (cR (cI (cI (cL (cR (cB 114)))))), .inLoop (cI (cI (cL (cR (cB 114))))), .inBlock 0, .code (cR (cR (cB 114)))] [] none
noncomputable def p114_4 (f : Nat) (x0 : ByteArray) : Prog := runP En f 114 (tmL 22 [(0, (Value.string x0))]) [.code (cL (cR (cR (cB 114)))), .code (cR (cR (cR (cB 114))))] [] none
theorem p114_1_eq (f : Nat) (x0 : ByteArray) (x1 : Nat) : p114_1 (f + 1) x0 x1 =
 (cnd
 (cnd
 (cnd
 (Prog.call (callF En (runP En f) 171 [(Value.pointer (Option.some (Addr.mk x1 0 Option.none))), (Value.int IntKind.u8 (Int.ofNat (byteAt x0 (Int.toNat (IntKind.wrap IntKind.i64 (Int.subNatNat (List.length (Array.toList (ByteArray.data x0))) 1))))))]) fun v2 =>
 (cnd
 (cnd
 (p114_4 f x0)
 (cnd
 (cnd
 (p114_1 f (mkStr (List.take ((Int.toNat (IntKind.wrap IntKind.i64 (Int.subNatNat (List.length (Array.toList (ByteArray.data x0))) 1))) - 0) (Array.toList (ByteArray.data x0)))) x1)
 Prog.fail
 ((Nat.ble 0 (Int.toNat (IntKind.wrap IntKind.i64 (Int.subNatNat (List.length (Array.toList (ByteArray.data x0))) 1)))) && (Nat.ble (Int.toNat (IntKind.wrap IntKind.i64 (Int.subNatNat (List.length (Array.toList (ByteArray.data x0))) 1))) (List.length (Array.toList (ByteArray.data x0))))))
 Prog.fail
 (decide ((0 : Int) ≤ (IntKind.wrap IntKind.i64 (Int.subNatNat (List.length (Array.toList (ByteArray.data x0))) 1)))))
 (Bool.not (boolOf v2)))
 Prog.fail
 (okK Kd.bool v2)))
 Prog.fail
 (Nat.ble (Nat.succ (Int.toNat (IntKind.wrap IntKind.i64 (Int.subNatNat (List.length (Array.toList (ByteArray.data x0))) 1)))) (List.length (Array.toList (ByteArray.data x0)))))
 Prog.fail
 (decide ((0 : Int) ≤ (IntKind.wrap IntKind.i64 (Int.subNatNat (List.length (Array.toList (ByteArray.data x0))) 1)))))
 (p114_4 f x0)
 (decide ((Int.ofNat (List.length (Array.toList (ByteArray.data x0)))) > (0 : Int)))) := by kernel_rfl
theorem p114_4_eq (f : Nat) (x0 : ByteArray) : p114_4 (f + 1) x0 =
 (Prog.ret (Value.string x0)) := by kernel_rfl
theorem f114_eq (f : Nat) (x0 : ByteArray) (x1 : Nat) : callF En (runP En (f + 1)) 114 [(Value.string x0), (Value.pointer (Option.some (Addr.mk x1 0 Option.none)))] =
 (p114_1 f x0 x1) := by kernel_rfl
end Go.Proofs.YtmjbmbmnnephjaaGreatDoor
/- What comes of the points of a function: printed by the tool. -/
namespace Go.Proofs.YtmjbmbmnnephjaaGreatDoor
open Go Go.Ev Go.Proofs
set_option maxRecDepth 8000
set_option linter.unusedVariables false
theorem f116_eq (f : Nat) (x0 : Int) : callF En (runP En (f + 1)) 116 [(Value.int IntKind.u8 x0)] =
 (Prog.call (callF En (runP En f) 43 [(Value.int IntKind.u8 x0)]) fun v2 =>
 (cnd
 (cnd
 (Prog.ret (Value.bool Bool.true))
 (Prog.ret (Value.bool (decide (x0 = (46 : Int)))))
 (boolOf v2))
 Prog.fail
 (okK Kd.bool v2))) := by kernel_rfl
end Go.Proofs.YtmjbmbmnnephjaaGreatDoor
/- What comes of the points of a function: printed by the tool. -/
namespace Go.Proofs.YtmjbmbmnnephjaaGreatDoor
open Go Go.Ev Go.Proofs
set_option maxRecDepth 8000
set_option linter.unusedVariables false
theorem f117_eq (f : Nat) (x0 : ByteArray) (x1 : ByteArray) : callF En (runP En (f + 1)) 117 [(Value.string x0), (Value.string x1)] =
 (Prog.call (callF En (runP En f) 174 [(Value.string x0), (Value.string x1)]) fun v2 =>
 (cnd
 (Prog.ret (Value.tuple ⟨((Value.string (strOf (at_ (tupOf v2) 0))) :: ((Value.bool (boolOf (at_ (tupOf v2) 1))) :: []))⟩))
 Prog.fail
 ((isTupV v2) && (okNs ((Nm.one Kd.str) :: ((Nm.one Kd.bool) :: [])) (tupOf v2))))) := by kernel_rfl
end Go.Proofs.YtmjbmbmnnephjaaGreatDoor
/- What comes of the points of a function: printed by the tool. -/
namespace Go.Proofs.YtmjbmbmnnephjaaGreatDoor
open Go Go.Ev Go.Proofs
set_option maxRecDepth 8000
set_option linter.unusedVariables false
end Go.Proofs.YtmjbmbmnnephjaaGreatDoor
/- What comes of the points of a function: printed by the tool. -/
namespace Go.Proofs.YtmjbmbmnnephjaaGreatDoor
open Go Go.Ev Go.Proofs
set_option maxRecDepth 8000
set_option linter.unusedVariables false
noncomputable def p119_3 (f : Nat) (x0 : Nat) (x1 : Int) (x5 : Nat) (x5o : Nat) : Prog := runP En f 119 (tmL 34 [(0, (Value.pointer (Option.some (Addr.mk x0 0 Option.none)))), (1, (Value.int IntKind.i64 x1)), (5, (Value.pointer (Option.some (Addr.mk x5 x5o Option.none))))]) [.code (cR (cR (cB 119)))] [] none
theorem p119_3_eq (f : Nat) (x0 : Nat) (x1 : Int) (x5 : Nat) (x5o : Nat) : p119_3 (f + 1) x0 x1 x5 x5o =
 (Prog.seg (loadT En 9 x0 0) fun v7 s8 _ =>
 (cnd
 (Prog.seg (loadT En 3 x0 1) fun v9 s10 _ =>
 (gdL 3840 (writesOf s10) s10 [⟨6, writesOf s8, s8⟩]
 (cnd
 (cnd
 (cnd
 (cnd
 (Prog.seg (loadT En 32 x5 x5o) fun v11 s12 _ =>
 (gdL 0 (writesOf s12) s12 [⟨12, writesOf s10, s10⟩, ⟨6, writesOf s8, s8⟩]
 (cnd
 (Prog.seg (callF En (runP En f) 63 [(Value.pointer (Option.some (Addr.mk x0 0 Option.none))), (Value.int IntKind.i64 (1 : Int)), (Value.int IntKind.i64 x1), (Value.string (mkStr (List.take ((Int.toNat (intOf v9)) - (Int.toNat x1)) (List.drop (Int.toNat x1) (Array.toList (ByteArray.data (strOf v7))))))), (Value.agg ⟨((Value.int IntKind.i64 (intOf (at_ (aggOf v11) 0))) :: ((lstV (elems (at_ (aggOf v11) 1))) :: ((lstV (elems (at_ (aggOf v11) 2))) :: ((lstV (elems (at_ (aggOf v11) 3))) :: []))))⟩)]) fun v13 s14 _ =>
 (gdL 32767 (writesOf s14) s14 [⟨14, writesOf s12, s12⟩, ⟨12, writesOf s10, s10⟩, ⟨6, writesOf s8, s8⟩]
 (cnd
 (Prog.ret (Value.tuple ⟨[]⟩))
 Prog.fail
 ((isTupV v13) && (okNs [] (tupOf v13))))))
 Prog.fail
 ((isAggV v11) && (okKs ((Kd.int IntKind.i64) :: (Kd.lst :: (Kd.lst :: (Kd.lst :: [])))) (aggOf v11))))))
 Prog.fail
 ((Nat.ble (Int.toNat x1) (Int.toNat (intOf v9))) && (Nat.ble (Int.toNat (intOf v9)) (List.length (Array.toList (ByteArray.data (strOf v7)))))))
 Prog.fail
 (decide ((0 : Int) ≤ (intOf v9))))
 Prog.fail
 (decide ((0 : Int) ≤ x1)))
 Prog.fail
 (okK (Kd.int IntKind.i64) v9))))
 Prog.fail
 (okK Kd.str v7))) := by kernel_rfl
theorem f119_eq (f : Nat) (x0 : Nat) (x1 : Int) (x2_0 : Int) (x2_1 : List Value) (x2_2 : List Value) (x2_3 : List Value) : callF En (runP En (f + 1)) 119 [(Value.pointer (Option.some (Addr.mk x0 0 Option.none))), (Value.int IntKind.i64 x1), (Value.agg ⟨((Value.int IntKind.i64 x2_0) :: ((lstV x2_1) :: ((lstV x2_2) :: ((lstV x2_3) :: []))))⟩)] =
 (gd Bool.true
 (callP (fun v16 =>
 (cnd
 (callP (fun v17 =>
 (cnd
 (callP (fun v18 =>
 (cnd
 (cnd
 (callP (fun v19 =>
 (cnd
 (callP (fun v20 =>
 (p119_3 f x0 x1 (blkOf v16) (offOf v16)))
 (storeT En 3 (blkOf v16) ((offOf v16) + 0) (Value.int IntKind.i64 (IntKind.wrap IntKind.i64 ((0 : Int) + (Int.neg (intOf v19)))))))
 Prog.fail
 (okK (Kd.int IntKind.i64) v19)))
 (loadT En 3 (blkOf v16) ((offOf v16) + 0)))
 (p119_3 f x0 x1 (blkOf v16) (offOf v16))
 (decide ((IntKind.wrap IntKind.i64 (Int.ofNat ((List.length (elems v17)) + (List.length (elems v18))))) = (1 : Int))))
 Prog.fail
 (isLst v18)))
 (loadT En 29 (blkOf v16) ((offOf v16) + 2)))
 Prog.fail
 (isLst v17)))
 (loadT En 28 (blkOf v16) ((offOf v16) + 1)))
 Prog.fail
 (isPt v16)))
 (Prog.newH (Hdr.mk 4 32 Bool.false Bool.true Bool.true 0 Bool.false Bool.false []) ((Value.int IntKind.i64 x2_0) :: ((lstV x2_1) :: ((lstV x2_2) :: ((lstV x2_3) :: [])))) (fun z15 => (Prog.ret (itP z15)))))) := by kernel_rfl
end Go.Proofs.YtmjbmbmnnephjaaGreatDoor
/- What comes of the points of a function: printed by the tool. -/
namespace Go.Proofs.YtmjbmbmnnephjaaGreatDoor
open Go Go.Ev Go.Proofs
set_option maxRecDepth 8000
set_option linter.unusedVariables false
noncomputable def p120_4 (f : Nat) (x0 : Nat) (x3 : Int) : Prog := runP En f 120 (tmL 55 [(0, (Value.pointer (Option.some (Addr.mk x0 0 Option.none)))), (3, (Value.int IntKind.i64 x3))]) [.code (cL (cR (cR (cR (cB 120))))), .code (cR (cR (cR (cR (cB 120)))))] [] none
theorem p120_4_eq (f : Nat) (x0 : Nat) (x3 : Int) : p120_4 (f + 1) x0 x3 =
 (callP (fun v2 =>
 (cnd
 (callP (fun v3 =>
 (Prog.call (callF En (runP En f) 32 [(Value.pointer (Option.some (Addr.mk x0 0 Option.none))), (Value.func (Fn.func 116) ⟨[]⟩ ⟨[]⟩)]) fun v4 =>
 (cnd
 (callP (fun v5 =>
 (cnd
 (callP (fun v6 =>
 (Prog.seg (loadT En 9 x0 0) fun v7 s8 _ =>
 (cnd
 (Prog.seg (loadT En 3 x0 1) fun v9 s10 _ =>
 (gdL 480 (writesOf s10) s10 [⟨4, writesOf s8, s8⟩]
 (cnd
 (Prog.seg (loadT En 3 x0 1) fun v11 s12 _ =>
 (gdL 15360 (writesOf s12) s12 [⟨9, writesOf s10, s10⟩, ⟨4, writesOf s8, s8⟩]
 (cnd
 (cnd
 (cnd
 (cnd
 (Prog.ret (Value.string (mkStr (List.take ((Int.toNat (IntKind.wrap IntKind.i64 ((IntKind.wrap IntKind.i64 ((intOf v11) + x3)) + (Int.ofNat (List.length (Array.toList (ByteArray.data (strOf v4)))))))) - (Int.toNat (intOf v9))) (List.drop (Int.toNat (intOf v9)) (Array.toList (ByteArray.data (strOf v7))))))))
 Prog.fail
 ((Nat.ble (Int.toNat (intOf v9)) (Int.toNat (IntKind.wrap IntKind.i64 ((IntKind.wrap IntKind.i64 ((intOf v11) + x3)) + (Int.ofNat (List.length (Array.toList (ByteArray.data (strOf v4))))))))) && (Nat.ble (Int.toNat (IntKind.wrap IntKind.i64 ((IntKind.wrap IntKind.i64 ((intOf v11) + x3)) + (Int.ofNat (List.length (Array.toList (ByteArray.data (strOf v4)))))))) (List.length (Array.toList (ByteArray.data (strOf v7)))))))
 Prog.fail
 (decide ((0 : Int) ≤ (IntKind.wrap IntKind.i64 ((IntKind.wrap IntKind.i64 ((intOf v11) + x3)) + (Int.ofNat (List.length (Array.toList (ByteArray.data (strOf v4))))))))))
 Prog.fail
 (decide ((0 : Int) ≤ (intOf v9))))
 Prog.fail
 (okK (Kd.int IntKind.i64) v11))))
 Prog.fail
 (okK (Kd.int IntKind.i64) v9))))
 Prog.fail
 (okK Kd.str v7))))
 (storeT En 3 x0 1 (Value.int IntKind.i64 (IntKind.wrap IntKind.i64 ((intOf v5) + (Int.neg x3))))))
 Prog.fail
 (okK (Kd.int IntKind.i64) v5)))
 (loadT En 3 x0 1))
 Prog.fail
 (okK Kd.str v4))))
 (storeT En 3 x0 1 (Value.int IntKind.i64 (IntKind.wrap IntKind.i64 ((intOf v2) + x3)))))
 Prog.fail
 (okK (Kd.int IntKind.i64) v2)))
 (loadT En 3 x0 1)) := by kernel_rfl
theorem f120_eq (f : Nat) (x0 : Nat) : callF En (runP En (f + 1)) 120 [(Value.pointer (Option.some (Addr.mk x0 0 Option.none)))] =
 (Prog.call (callF En (runP En f) 59 [(Value.pointer (Option.some (Addr.mk x0 0 Option.none))), (Value.int IntKind.i64 (0 : Int))]) fun v13 =>
 (cnd
 (cnd
 (p120_4 f x0 (1 : Int))
 (p120_4 f x0 (0 : Int))
 (decide ((intOf v13) = (45 : Int))))
 Prog.fail
 (okK (Kd.int IntKind.u8) v13))) := by kernel_rfl
end Go.Proofs.YtmjbmbmnnephjaaGreatDoor
/- What comes of the points of a function: printed by the tool. -/
namespace Go.Proofs.YtmjbmbmnnephjaaGreatDoor
open Go Go.Ev Go.Proofs
set_option maxRecDepth 8000
set_option linter.unusedVariables false
noncomputable def p121_12 (f : Nat) (x0 : ByteArray) (x5 : Int) : Prog := runP En f 121 (tmL 97 [(0, (Value.string x0)), (5, (Value.int IntKind.i64 x5))]) [.code (cL (cR (cR (cR (cR (cB 121)))))), .code (cR (cR (cR (cR (cR (cB 121))))))] [] none
noncomputable def p121_19 (f : Nat) (x5 : Int) (x8 : Bool) (x9 : ByteArray) (x10 : ByteArray) (x11 : Bool) : Prog := runP En f 121 (tmL 97 [(5, (Value.int IntKind.i64 x5)), (8, (Value.bool x8)), (9, (Value.string x9)), (10, (Value.string x10)), (11, (Value.bool x11))]) [.code (cL (cL (cR (cR (cR (cR (cR (cR (cR (cB 121)))))))))), .code (cR (cL (cR (cR (cR (cR (cR (cR (cR (cB 121)))))))))), .code (cR (cR (cR (cR (cR (cR (cR (cR (cB 121)))))))))] [] none
theorem p121_12_eq (f : Nat) (x0 : ByteArray) (x5 : Int) : p121_12 (f + 1) x0 x5 =
 (Prog.call (callF En (runP En f) 136 [(Value.string x0), (Value.string (mkStr [45]))]) fun v10 =>
 (cnd
 (Prog.call (callF En (runP En f) 178 [(Value.string (strOf (at_ (tupOf v10) 0))), (Value.string (mkStr [46]))]) fun v11 =>
 (cnd
 (cnd
 (cnd
 (Prog.ret (Value.tuple ⟨((Value.int IntKind.i64 (0 : Int)) :: ((Value.int IntKind.i64 (0 : Int)) :: ((Value.bool Bool.false) :: [])))⟩))
 (cnd
 (Prog.ret (Value.tuple ⟨((Value.int IntKind.i64 (0 : Int)) :: ((Value.int IntKind.i64 (0 : Int)) :: ((Value.bool Bool.false) :: [])))⟩))
 (cnd
 (Prog.ret (Value.tuple ⟨((Value.int IntKind.i64 (0 : Int)) :: ((Value.int IntKind.i64 (0 : Int)) :: ((Value.bool Bool.false) :: [])))⟩))
 (cnd
 (cnd
 (cnd
 (p121_19 f (5 : Int) (boolOf (at_ (tupOf v10) 1)) (mkStr ((Array.toList (ByteArray.data (strOf (at_ (tupOf v11) 0)))) ++ ((Array.toList (ByteArray.data (strOf (at_ (tupOf v11) 1)))) ++ (List.take (4 - (List.length (Array.toList (ByteArray.data (strOf (at_ (tupOf v11) 1)))))) (List.drop (List.length (Array.toList (ByteArray.data (strOf (at_ (tupOf v11) 1))))) ((48 : UInt8) :: ((48 : UInt8) :: ((48 : UInt8) :: ((48 : UInt8) :: []))))))))) (strOf (at_ (tupOf v11) 1)) (boolOf (at_ (tupOf v11) 2)))
 Prog.fail
 (Nat.ble ((List.length (Array.toList (ByteArray.data (strOf (at_ (tupOf v11) 0))))) + (List.length ((Array.toList (ByteArray.data (strOf (at_ (tupOf v11) 1)))) ++ (List.take (4 - (List.length (Array.toList (ByteArray.data (strOf (at_ (tupOf v11) 1)))))) (List.drop (List.length (Array.toList (ByteArray.data (strOf (at_ (tupOf v11) 1))))) ((48 : UInt8) :: ((48 : UInt8) :: ((48 : UInt8) :: ((48 : UInt8) :: []))))))))) 9223372036854775807))
 Prog.fail
 (Nat.ble ((List.length (Array.toList (ByteArray.data (strOf (at_ (tupOf v11) 1))))) + (List.length (List.take (4 - (List.length (Array.toList (ByteArray.data (strOf (at_ (tupOf v11) 1)))))) (List.drop (List.length (Array.toList (ByteArray.data (strOf (at_ (tupOf v11) 1))))) ((48 : UInt8) :: ((48 : UInt8) :: ((48 : UInt8) :: ((48 : UInt8) :: [])))))))) 9223372036854775807))
 Prog.fail
 ((Nat.ble (List.length (Array.toList (ByteArray.data (strOf (at_ (tupOf v11) 1))))) 4) && Bool.true))
 (decide ((Int.ofNat (List.length (Array.toList (ByteArray.data (strOf (at_ (tupOf v11) 1)))))) > (4 : Int))))
 (beqB (Array.toList (ByteArray.data (strOf (at_ (tupOf v11) 1)))) []))
 (decide (x5 = (4 : Int))))
 (p121_19 f x5 (boolOf (at_ (tupOf v10) 1)) (strOf (at_ (tupOf v11) 0)) (strOf (at_ (tupOf v11) 1)) (boolOf (at_ (tupOf v11) 2)))
 (boolOf (at_ (tupOf v11) 2)))
 Prog.fail
 ((isTupV v11) && (okNs ((Nm.one Kd.str) :: ((Nm.one Kd.str) :: ((Nm.one Kd.bool) :: []))) (tupOf v11)))))
 Prog.fail
 ((isTupV v10) && (okNs ((Nm.one Kd.str) :: ((Nm.one Kd.bool) :: [])) (tupOf v10))))) := by kernel_rfl
theorem p121_19_eq (f : Nat) (x5 : Int) (x8 : Bool) (x9 : ByteArray) (x10 : ByteArray) (x11 : Bool) : p121_19 (f + 1) x5 x8 x9 x10 x11 =
 (cnd
 (Prog.ret (Value.tuple ⟨((Value.int IntKind.i64 (0 : Int)) :: ((Value.int IntKind.i64 (0 : Int)) :: ((Value.bool Bool.false) :: [])))⟩))
 (Prog.call (callF En (runP En f) 118 [(Value.string x9), (Value.string (mkStr [48, 49, 50, 51, 52, 53, 54, 55, 56, 57]))]) fun v12 =>
 (cnd
 (cnd
 (Prog.ret (Value.tuple ⟨((Value.int IntKind.i64 (0 : Int)) :: ((Value.int IntKind.i64 (0 : Int)) :: ((Value.bool Bool.false) :: [])))⟩))
 (Prog.call (callF En (runP En f) 118 [(Value.string x10), (Value.string (mkStr [48, 49, 50, 51, 52, 53, 54, 55, 56, 57]))]) fun v13 =>
 (cnd
 (cnd
 (Prog.ret (Value.tuple ⟨((Value.int IntKind.i64 (0 : Int)) :: ((Value.int IntKind.i64 (0 : Int)) :: ((Value.bool Bool.false) :: [])))⟩))
 (cnd
 (cnd
 (Prog.ret (Value.tuple ⟨((Value.int IntKind.i64 (0 : Int)) :: ((Value.int IntKind.i64 (0 : Int)) :: ((Value.bool Bool.false) :: [])))⟩))
 (Prog.call (callF En (runP En f) 179 [(Value.string x9), (Value.int IntKind.i64 (10 : Int)), (Value.int IntKind.i64 (64 : Int))]) fun v14 =>
 (cnd
 (binK En BinOp.neq 103 (Operand.tmp 83) (Operand.const Value.nilIface) (at_ (tupOf v14) 1) Value.nilIface fun v15 =>
 (cnd
 (cnd
 (Prog.ret (Value.tuple ⟨((Value.int IntKind.i64 (0 : Int)) :: ((Value.int IntKind.i64 (0 : Int)) :: ((Value.bool Bool.false) :: [])))⟩))
 (cnd
 (Prog.ret (Value.tuple ⟨((Value.int IntKind.i64 (0 : Int)) :: ((Value.int IntKind.i64 (0 : Int)) :: ((Value.bool Bool.false) :: [])))⟩))
 (cnd
 (Prog.ret (Value.tuple ⟨((Value.int IntKind.i64 x5) :: ((Value.int IntKind.i64 (IntKind.wrap IntKind.i64 ((0 : Int) + (Int.neg (IntKind.wrap IntKind.i64 (intOf (at_ (tupOf v14) 0))))))) :: ((Value.bool Bool.true) :: [])))⟩))
 (Prog.ret (Value.tuple ⟨((Value.int IntKind.i64 x5) :: ((Value.int IntKind.i64 (IntKind.wrap IntKind.i64 (intOf (at_ (tupOf v14) 0)))) :: ((Value.bool Bool.true) :: [])))⟩))
 x8)
 (decide ((intOf (at_ (tupOf v14) 0)) > (9223372036854775807 : Int))))
 (boolOf v15))
 Prog.fail
 (okK Kd.bool v15)))
 Prog.fail
 ((isTupV v14) && (okNs ((Nm.one (Kd.int IntKind.u64)) :: ((Nm.one Kd.raw) :: [])) (tupOf v14)))))
 (decide ((Int.ofNat (List.length (Array.toList (ByteArray.data x9)))) = (4 : Int))))
 (Prog.call (callF En (runP En f) 179 [(Value.string x9), (Value.int IntKind.i64 (10 : Int)), (Value.int IntKind.i64 (64 : Int))]) fun v16 =>
 (cnd
 (binK En BinOp.neq 103 (Operand.tmp 83) (Operand.const Value.nilIface) (at_ (tupOf v16) 1) Value.nilIface fun v17 =>
 (cnd
 (cnd
 (Prog.ret (Value.tuple ⟨((Value.int IntKind.i64 (0 : Int)) :: ((Value.int IntKind.i64 (0 : Int)) :: ((Value.bool Bool.false) :: [])))⟩))
 (cnd
 (Prog.ret (Value.tuple ⟨((Value.int IntKind.i64 (0 : Int)) :: ((Value.int IntKind.i64 (0 : Int)) :: ((Value.bool Bool.false) :: [])))⟩))
 (cnd
 (Prog.ret (Value.tuple ⟨((Value.int IntKind.i64 x5) :: ((Value.int IntKind.i64 (IntKind.wrap IntKind.i64 ((0 : Int) + (Int.neg (IntKind.wrap IntKind.i64 (intOf (at_ (tupOf v16) 0))))))) :: ((Value.bool Bool.true) :: [])))⟩))
 (Prog.ret (Value.tuple ⟨((Value.int IntKind.i64 x5) :: ((Value.int IntKind.i64 (IntKind.wrap IntKind.i64 (intOf (at_ (tupOf v16) 0)))) :: ((Value.bool Bool.true) :: [])))⟩))
 x8)
 (decide ((intOf (at_ (tupOf v16) 0)) > (9223372036854775807 : Int))))
 (boolOf v17))
 Prog.fail
 (okK Kd.bool v17)))
 Prog.fail
 ((isTupV v16) && (okNs ((Nm.one (Kd.int IntKind.u64)) :: ((Nm.one Kd.raw) :: [])) (tupOf v16)))))
 x11)
 (Bool.not (beqB (Array.toList (ByteArray.data (strOf v13))) [])))
 Prog.fail
 (okK Kd.str v13)))
 (Bool.not (beqB (Array.toList (ByteArray.data (strOf v12))) [])))
 Prog.fail
 (okK Kd.str v12)))
 (beqB (Array.toList (ByteArray.data x9)) [])) := by kernel_rfl
theorem f121_eq (f : Nat) (x0 : ByteArray) : callF En (runP En (f + 1)) 121 [(Value.string x0)] =
 (cnd
 (Prog.ret (Value.tuple ⟨((Value.int IntKind.i64 (2 : Int)) :: ((Value.int IntKind.i64 (-9223372036854775808 : Int)) :: ((Value.bool Bool.true) :: [])))⟩))
 (cnd
 (Prog.ret (Value.tuple ⟨((Value.int IntKind.i64 (4 : Int)) :: ((Value.int IntKind.i64 (-9223372036854775808 : Int)) :: ((Value.bool Bool.true) :: [])))⟩))
 (cnd
 (Prog.ret (Value.tuple ⟨((Value.int IntKind.i64 (5 : Int)) :: ((Value.int IntKind.i64 (-9223372036854775808 : Int)) :: ((Value.bool Bool.true) :: [])))⟩))
 (Prog.call (callF En (runP En f) 117 [(Value.string x0), (Value.string (mkStr [116]))]) fun v18 =>
 (cnd
 (cnd
 (p121_12 f (strOf (at_ (tupOf v18) 0)) (4 : Int))
 (p121_12 f x0 (2 : Int))
 (boolOf (at_ (tupOf v18) 1)))
 Prog.fail
 ((isTupV v18) && (okNs ((Nm.one Kd.str) :: ((Nm.one Kd.bool) :: [])) (tupOf v18)))))
 (beqB (Array.toList (ByteArray.data x0)) ((48 : UInt8) :: ((78 : UInt8) :: ((100 : UInt8) :: [])))))
 (beqB (Array.toList (ByteArray.data x0)) ((48 : UInt8) :: ((78 : UInt8) :: ((116 : UInt8) :: [])))))
 (beqB (Array.toList (ByteArray.data x0)) ((48 : UInt8) :: ((78 : UInt8) :: [])))) := by kernel_rfl
end Go.Proofs.YtmjbmbmnnephjaaGreatDoor
/- What comes of the points of a function: printed by the tool. -/
namespace Go.Proofs.YtmjbmbmnnephjaaGreatDoor
open Go Go.Ev Go.Proofs
set_option maxRecDepth 8000
set_option linter.unusedVariables false
noncomputable def p122_2 (f : Nat) (x0 : Nat) (x3 : Int) : Prog := runP En f 122 (tmL 75 [(0, (Value.pointer (Option.some (Addr.mk x0 0 Option.none)))), (3, (Value.int IntKind.i64 x3))]) [.code (cL (cL (cI (cI (cL (cR (cR (cB 122)))))))), .code (cR (cL (cI (cI (cL (cR (cR (cB 122)))))))), .code (cR (cI (cI (cL (cR (cR (cB 122))))))), .inLoop (cI (cI (cL (cR (cR (cB 122)))))), .inBlock 0, .code (cR (cR (cR (cB 122))))] [] none
theorem p122_2_eq (f : Nat) (x0 : Nat) (x3 : Int) : p122_2 (f + 1) x0 x3 =
 (Prog.call (callF En (runP En f) 59 [(Value.pointer (Option.some (Addr.mk x0 0 Option.none))), (Value.int IntKind.i64 x3)]) fun v1 =>
 (cnd
 (cnd
 (p122_2 f x0 (IntKind.wrap IntKind.i64 (x3 + (1 : Int))))
 (cnd
 (Prog.ret (Value.bool Bool.false))
 (callP (fun v2 =>
 (cnd
 (Prog.call (callF En (runP En f) 59 [(Value.pointer (Option.some (Addr.mk x0 0 Option.none))), (Value.int IntKind.i64 x3)]) fun v3 =>
 (cnd
 (Prog.call (callF En (runP En f) 60 [(Value.int IntKind.u8 (intOf v3))]) fun v4 =>
 (cnd
 (cnd
 (cnd
 (Prog.ret (Value.bool Bool.false))
 (Prog.call (callF En (runP En f) 59 [(Value.pointer (Option.some (Addr.mk x0 0 Option.none))), (Value.int IntKind.i64 (IntKind.wrap IntKind.i64 (x3 + (1 : Int))))]) fun v5 =>
 (cnd
 (Prog.call (callF En (runP En f) 60 [(Value.int IntKind.u8 (intOf v5))]) fun v6 =>
 (cnd
 (cnd
 (Prog.ret (Value.bool Bool.false))
 (callP (fun v7 =>
 (cnd
 (gd Bool.true
 (callP (fun v9 =>
 (cnd
 (callP (fun v10 =>
 (Prog.call (callF En (runP En f) 32 [(Value.pointer (Option.some (Addr.mk (blkOf v9) (offOf v9) Option.none))), (Value.func (Fn.func 116) ⟨[]⟩ ⟨[]⟩)]) fun v11 =>
 (cnd
 (Prog.call (callF En (runP En f) 117 [(Value.string (strOf v11)), (Value.string (mkStr [98]))]) fun v12 =>
 (cnd
 (cnd
 (cnd
 (Prog.call (callF En (runP En f) 118 [(Value.string (strOf (at_ (tupOf v12) 0))), (Value.string (mkStr [48, 49]))]) fun v13 =>
 (cnd
 (cnd
 (Prog.ret (Value.bool Bool.false))
 (callP (fun v14 =>
 (Prog.ret (Value.bool Bool.true)))
 (storeT En 3 x0 1 (Value.int IntKind.i64 (IntKind.wrap IntKind.i64 ((intOf v2) + x3)))))
 (beqB (Array.toList (ByteArray.data (strOf v13))) []))
 Prog.fail
 (okK Kd.str v13)))
 (callP (fun v15 =>
 (Prog.ret (Value.bool Bool.true)))
 (storeT En 3 x0 1 (Value.int IntKind.i64 (IntKind.wrap IntKind.i64 ((intOf v2) + x3)))))
 (Bool.not (beqB (Array.toList (ByteArray.data (strOf (at_ (tupOf v12) 0)))) [])))
 (callP (fun v16 =>
 (Prog.ret (Value.bool Bool.true)))
 (storeT En 3 x0 1 (Value.int IntKind.i64 (IntKind.wrap IntKind.i64 ((intOf v2) + x3)))))
 (boolOf (at_ (tupOf v12) 1)))
 Prog.fail
 ((isTupV v12) && (okNs ((Nm.one Kd.str) :: ((Nm.one Kd.bool) :: [])) (tupOf v12)))))
 Prog.fail
 (okK Kd.str v11))))
 (storeT En 58 (blkOf v9) (offOf v9) (Value.agg ⟨((Value.string (strOf v7)) :: ((Value.int IntKind.i64 (IntKind.wrap IntKind.i64 ((intOf v2) + x3))) :: []))⟩)))
 Prog.fail
 (isPt v9)))
 (Prog.newH (Hdr.mk 2 58 Bool.false Bool.true Bool.true 0 Bool.false Bool.false []) ((Value.string (mkStr [])) :: ((Value.int IntKind.i64 (0 : Int)) :: [])) (fun z8 => (Prog.ret (itP z8))))))
 Prog.fail
 (okK Kd.str v7)))
 (loadT En 9 x0 0))
 (Bool.not (boolOf v6)))
 Prog.fail
 (okK Kd.bool v6)))
 Prog.fail
 (okK (Kd.int IntKind.u8) v5)))
 (Bool.not (decide ((intOf v3) = (45 : Int)))))
 (callP (fun v17 =>
 (cnd
 (gd Bool.true
 (callP (fun v19 =>
 (cnd
 (callP (fun v20 =>
 (Prog.call (callF En (runP En f) 32 [(Value.pointer (Option.some (Addr.mk (blkOf v19) (offOf v19) Option.none))), (Value.func (Fn.func 116) ⟨[]⟩ ⟨[]⟩)]) fun v21 =>
 (cnd
 (Prog.call (callF En (runP En f) 117 [(Value.string (strOf v21)), (Value.string (mkStr [98]))]) fun v22 =>
 (cnd
 (cnd
 (cnd
 (Prog.call (callF En (runP En f) 118 [(Value.string (strOf (at_ (tupOf v22) 0))), (Value.string (mkStr [48, 49]))]) fun v23 =>
 (cnd
 (cnd
 (Prog.ret (Value.bool Bool.false))
 (callP (fun v24 =>
 (Prog.ret (Value.bool Bool.true)))
 (storeT En 3 x0 1 (Value.int IntKind.i64 (IntKind.wrap IntKind.i64 ((intOf v2) + x3)))))
 (beqB (Array.toList (ByteArray.data (strOf v23))) []))
 Prog.fail
 (okK Kd.str v23)))
 (callP (fun v25 =>
 (Prog.ret (Value.bool Bool.true)))
 (storeT En 3 x0 1 (Value.int IntKind.i64 (IntKind.wrap IntKind.i64 ((intOf v2) + x3)))))
 (Bool.not (beqB (Array.toList (ByteArray.data (strOf (at_ (tupOf v22) 0)))) [])))
 (callP (fun v26 =>
 (Prog.ret (Value.bool Bool.true)))
 (storeT En 3 x0 1 (Value.int IntKind.i64 (IntKind.wrap IntKind.i64 ((intOf v2) + x3)))))
 (boolOf (at_ (tupOf v22) 1)))
 Prog.fail
 ((isTupV v22) && (okNs ((Nm.one Kd.str) :: ((Nm.one Kd.bool) :: [])) (tupOf v22)))))
 Prog.fail
 (okK Kd.str v21))))
 (storeT En 58 (blkOf v19) (offOf v19) (Value.agg ⟨((Value.string (strOf v17)) :: ((Value.int IntKind.i64 (IntKind.wrap IntKind.i64 ((intOf v2) + x3))) :: []))⟩)))
 Prog.fail
 (isPt v19)))
 (Prog.newH (Hdr.mk 2 58 Bool.false Bool.true Bool.true 0 Bool.false Bool.false []) ((Value.string (mkStr [])) :: ((Value.int IntKind.i64 (0 : Int)) :: [])) (fun z18 => (Prog.ret (itP z18))))))
 Prog.fail
 (okK Kd.str v17)))
 (loadT En 9 x0 0))
 (Bool.not (boolOf v4)))
 Prog.fail
 (okK Kd.bool v4)))
 Prog.fail
 (okK (Kd.int IntKind.u8) v3)))
 Prog.fail
 (okK (Kd.int IntKind.i64) v2)))
 (loadT En 3 x0 1))
 (decide (x3 = (0 : Int))))
 (decide ((intOf v1) = (32 : Int))))
 Prog.fail
 (okK (Kd.int IntKind.u8) v1))) := by kernel_rfl
theorem f122_eq (f : Nat) (x0 : Nat) : callF En (runP En (f + 1)) 122 [(Value.pointer (Option.some (Addr.mk x0 0 Option.none)))] =
 (p122_2 f x0 (0 : Int)) := by kernel_rfl
end Go.Proofs.YtmjbmbmnnephjaaGreatDoor
/- What comes of the points of a function: printed by the tool. -/
namespace Go.Proofs.YtmjbmbmnnephjaaGreatDoor
open Go Go.Ev Go.Proofs
set_option maxRecDepth 8000
set_option linter.unusedVariables false
noncomputable def p123_5 (f : Nat) (x0 : ByteArray) (x4 : Value) (x5 : ByteArray) : Prog := runP En f 123 (tmL 53 [(0, (Value.string x0)), (4, x4), (5, (Value.string x5))]) [.code (cL (cL (cI (cI (cR (cL (cR (cR (cR (cB 123)))))))))), .code (cR (cL (cI (cI (cR (cL (cR (cR (cR (cB 123)))))))))), .code (cR (cI (cI (cR (cL (cR (cR (cR (cB 123))))))))), .inLoop (cI (cI (cR (cL (cR (cR (cR (cB 123)))))))), .inBlock 0, .code (cR (cR (cR (cR (cB 123)))))] [] none
theorem p123_5_eq (f : Nat) (x0 : ByteArray) (x4 : Value) (x5 : ByteArray) : p123_5 (f + 1) x0 x4 x5 =
 (cnd
 (cnd
 (cnd
 (cnd
 (Prog.seg (buildSliceA En 65 1 ((Prod.mk 0 (Value.int IntKind.u8 (Int.ofNat (byteAt x5 0)))) :: [])) fun v12 s13 _ =>
 (Prog.seg (builtinA En Builtin.append (65 :: (65 :: [])) (x4 :: (v12 :: []))) fun v14 s15 _ =>
 (gdL 15 (writesOf s15) s15 [⟨3, writesOf s13, s13⟩]
 (cnd
 (p123_5 f x0 v14 (mkStr (List.take ((List.length (Array.toList (ByteArray.data x5))) - 1) (List.drop 1 (Array.toList (ByteArray.data x5))))))
 Prog.fail
 ((Nat.ble 1 (List.length (Array.toList (ByteArray.data x5)))) && (Nat.ble (List.length (Array.toList (ByteArray.data x5))) (List.length (Array.toList (ByteArray.data x5)))))))))
 Prog.fail
 (Nat.ble 1 (List.length (Array.toList (ByteArray.data x5)))))
 (cnd
 (Prog.ret (Value.tuple ⟨((Value.string (mkStr [])) :: ((Value.bool Bool.false) :: []))⟩))
 (cnd
 (Prog.call (callF En (runP En f) 179 [(Value.string (mkStr (List.take 2 (List.drop 2 (Array.toList (ByteArray.data x5)))))), (Value.int IntKind.i64 (16 : Int)), (Value.int IntKind.i64 (8 : Int))]) fun v16 =>
 (cnd
 (binK En BinOp.neq 103 (Operand.tmp 37) (Operand.const Value.nilIface) (at_ (tupOf v16) 1) Value.nilIface fun v17 =>
 (cnd
 (cnd
 (Prog.ret (Value.tuple ⟨((Value.string (mkStr [])) :: ((Value.bool Bool.false) :: []))⟩))
 (Prog.seg (buildSliceA En 65 1 ((Prod.mk 0 (Value.int IntKind.u8 (IntKind.wrap IntKind.u8 (intOf (at_ (tupOf v16) 0))))) :: [])) fun v18 s19 _ =>
 (Prog.seg (builtinA En Builtin.append (65 :: (65 :: [])) (x4 :: (v18 :: []))) fun v20 s21 _ =>
 (gdL 15 (writesOf s21) s21 [⟨3, writesOf s19, s19⟩]
 (cnd
 (p123_5 f x0 v20 (mkStr (List.take ((List.length (Array.toList (ByteArray.data x5))) - 4) (List.drop 4 (Array.toList (ByteArray.data x5))))))
 Prog.fail
 ((Nat.ble 4 (List.length (Array.toList (ByteArray.data x5)))) && (Nat.ble (List.length (Array.toList (ByteArray.data x5))) (List.length (Array.toList (ByteArray.data x5)))))))))
 (boolOf v17))
 Prog.fail
 (okK Kd.bool v17)))
 Prog.fail
 ((isTupV v16) && (okNs ((Nm.one (Kd.int IntKind.u64)) :: ((Nm.one Kd.raw) :: [])) (tupOf v16)))))
 Prog.fail
 (Nat.ble 4 (List.length (Array.toList (ByteArray.data x5)))))
 (decide ((Int.ofNat (List.length (Array.toList (ByteArray.data x5)))) < (4 : Int))))
 (Bool.not (decide ((Int.ofNat (byteAt x5 0)) = (92 : Int)))))
 Prog.fail
 (Nat.ble 1 (List.length (Array.toList (ByteArray.data x5)))))
 (callP (fun v70 =>
 (Prog.call (callF En (runP En f) 40 [v70]) fun v71 =>
 (cnd
 (cnd
 (Prog.ret (Value.tuple ⟨((Value.string (mkStr [])) :: ((Value.bool Bool.false) :: []))⟩))
 (callP (fun v120 =>
 (Prog.ret (Value.tuple ⟨(v120 :: ((Value.bool Bool.true) :: []))⟩)))
 (convA En 65 9 x4))
 (Bool.not (beqB (Array.toList (ByteArray.data (strOf v71))) (Array.toList (ByteArray.data x0)))))
 Prog.fail
 (okK Kd.str v71))))
 (convA En 65 9 x4))
 (Bool.not (beqB (Array.toList (ByteArray.data x5)) []))) := by kernel_rfl
theorem f123_eq (f : Nat) (x0 : ByteArray) : callF En (runP En (f + 1)) 123 [(Value.string x0)] =
 (cnd
 (Prog.ret (Value.tuple ⟨((Value.string (mkStr [])) :: ((Value.bool Bool.false) :: []))⟩))
 (cnd
 (cnd
 (p123_5 f x0 (Value.slice Option.none 0 0) (mkStr (List.take ((Int.toNat (IntKind.wrap IntKind.i64 (Int.subNatNat (List.length (Array.toList (ByteArray.data x0))) 1))) - 1) (List.drop 1 (Array.toList (ByteArray.data x0))))))
 Prog.fail
 ((Nat.ble 1 (Int.toNat (IntKind.wrap IntKind.i64 (Int.subNatNat (List.length (Array.toList (ByteArray.data x0))) 1)))) && (Nat.ble (Int.toNat (IntKind.wrap IntKind.i64 (Int.subNatNat (List.length (Array.toList (ByteArray.data x0))) 1))) (List.length (Array.toList (ByteArray.data x0))))))
 Prog.fail
 (decide ((0 : Int) ≤ (IntKind.wrap IntKind.i64 (Int.subNatNat (List.length (Array.toList (ByteArray.data x0))) 1)))))
 (decide ((Int.ofNat (List.length (Array.toList (ByteArray.data x0)))) < (2 : Int)))) := by kernel_rfl
end Go.Proofs.YtmjbmbmnnephjaaGreatDoor
/- What comes of the points of a function: printed by the tool. -/
namespace Go.Proofs.YtmjbmbmnnephjaaGreatDoor
open Go Go.Ev Go.Proofs
set_option maxRecDepth 8000
set_option linter.unusedVariables false
theorem f124_eq (f : Nat) (x0 : ByteArray) (x1 : Int) : callF En (runP En (f + 1)) 124 [(Value.string x0), (Value.int IntKind.u8 x1)] =
 (Prog.call (callF En (runP En f) 180 [(Value.string x0), (Value.int IntKind.u8 x1)]) fun v2 =>
 (cnd
 (Prog.ret (Value.int IntKind.i64 (intOf v2)))
 Prog.fail
 (okK (Kd.int IntKind.i64) v2))) := by kernel_rfl
end Go.Proofs.YtmjbmbmnnephjaaGreatDoor
/- What comes of the points of a function: printed by the tool. -/
namespace Go.Proofs.YtmjbmbmnnephjaaGreatDoor
open Go Go.Ev Go.Proofs
set_option maxRecDepth 8000
set_option linter.unusedVariables false
theorem f125_eq (f : Nat) (x0 : Int) : callF En (runP En (f + 1)) 125 [(Value.int IntKind.i64 x0)] =
 (cnd
 (cnd
 (Prog.ret (Value.int IntKind.i64 (IntKind.wrap IntKind.i64 ((0 : Int) + (Int.neg x0)))))
 (Prog.ret (Value.int IntKind.i64 x0))
 (decide (x0 ≥ (-5 : Int))))
 (Prog.ret (Value.int IntKind.i64 x0))
 (decide (x0 < (0 : Int)))) := by kernel_rfl
end Go.Proofs.YtmjbmbmnnephjaaGreatDoor
/- What comes of the points of a function: printed by the tool. -/
namespace Go.Proofs.YtmjbmbmnnephjaaGreatDoor
open Go Go.Ev Go.Proofs
set_option maxRecDepth 8000
set_option linter.unusedVariables false
noncomputable def p126_3 (f : Nat) (x1 : Nat) (x1o : Nat) (x3 : Bool) (x4 : Int) : Prog := runP En f 126 (tmL 46 [(1, (Value.pointer (Option.some (Addr.mk x1 x1o Option.none)))), (3, (Value.bool x3)), (4, (Value.int IntKind.i64 x4))]) [.code (cL (cL (cI (cI (cR (cL (cR (cR (cB 126))))))))), .code (cR (cL (cI (cI (cR (cL (cR (cR (cB 126))))))))), .code (cR (cI (cI (cR (cL (cR (cR (cB 126)))))))), .inLoop (cI (cI (cR (cL (cR (cR (cB 126))))))), .inBlock 0, .code (cR (cR (cR (cB 126))))] [] none
noncomputable def p126_4 (f : Nat) (x1 : Nat) (x1o : Nat) (x3 : Bool) (x4 : Int) : Prog := runP En f 126 (tmL 46 [(1, (Value.pointer (Option.some (Addr.mk x1 x1o Option.none)))), (3, (Value.bool x3)), (4, (Value.int IntKind.i64 x4))]) [.code (cR (cR (cI (cI (cR (cL (cR (cR (cB 126))))))))), .inLoop (cI (cI (cR (cL (cR (cR (cB 126))))))), .inBlock 0, .code (cR (cR (cR (cB 126))))] [] none
theorem p126_3_eq (f : Nat) (x1 : Nat) (x1o : Nat) (x3 : Bool) (x4 : Int) : p126_3 (f + 1) x1 x1o x3 x4 =
 (callP (fun v14 =>
 (cnd
 (cnd
 (callP (fun v15 =>
 (cnd
 (cnd
 (cnd
 (cnd
 (cnd
 (cnd
 (cnd
 (Prog.ret (Value.bool Bool.false))
 (Prog.seg (loadT En 30 x1 (x1o + 3)) fun v16 s17 _ =>
 (cnd
 (cnd
 (cnd
 (cnd
 (cnd
 (Prog.seg (callF En (runP En f) 14 [(Value.agg ⟨((Value.int IntKind.i64 (intOf (at_ (List.take 4 (Array.toList (Value.cells (at_ (elems v16) (Int.toNat x4))))) 0))) :: ((lstV (elems (at_ (List.take 4 (Array.toList (Value.cells (at_ (elems v16) (Int.toNat x4))))) 1))) :: ((lstV (elems (at_ (List.take 4 (Array.toList (Value.cells (at_ (elems v16) (Int.toNat x4))))) 2))) :: ((lstV (elems (at_ (List.take 4 (Array.toList (Value.cells (at_ (elems v16) (Int.toNat x4))))) 3))) :: []))))⟩)]) fun v18 s19 _ =>
 (gdL 31 (writesOf s19) s19 [⟨1, writesOf s17, s17⟩]
 (cnd
 (cnd
 (p126_4 f x1 x1o Bool.false x4)
 (Prog.seg (loadT En 30 x1 (x1o + 3)) fun v20 s21 _ =>
 (gdL 511 (writesOf s21) s21 [⟨5, writesOf s19, s19⟩, ⟨1, writesOf s17, s17⟩]
 (cnd
 (cnd
 (cnd
 (cnd
 (cnd
 (cnd
 (Prog.seg (loadT En 30 x1 (x1o + 3)) fun v22 s23 _ =>
 (gdL 16639 (writesOf s23) s23 [⟨9, writesOf s21, s21⟩, ⟨5, writesOf s19, s19⟩, ⟨1, writesOf s17, s17⟩]
 (cnd
 (cnd
 (cnd
 (cnd
 (cnd
 (cnd
 (p126_4 f x1 x1o Bool.false x4)
 (p126_4 f x1 x1o x3 x4)
 (Bool.not (decide ((intOf (List.headD (Array.toList (Value.cells (at_ (elems v20) (Int.toNat x4)))) (Value.tuple ⟨[]⟩))) = (intOf (List.headD (Array.toList (Value.cells (at_ (elems v22) 0))) (Value.tuple ⟨[]⟩)))))))
 Prog.fail
 (okK (Kd.int IntKind.i64) (List.headD (Array.toList (Value.cells (at_ (elems v22) 0))) (Value.tuple ⟨[]⟩))))
 Prog.fail
 (Nat.ble 1 (List.length (Array.toList (Value.cells (at_ (elems v22) 0))))))
 Prog.fail
 (Nat.ble 1 (List.length (Array.toList (Value.cells (at_ (elems v22) 0))))))
 Prog.fail
 (((Nat.ble 1 (List.length (elems v22))) && Bool.true) && (hdOk 4 (elems v22))))
 Prog.fail
 (isLst v22))))
 Prog.fail
 (okK (Kd.int IntKind.i64) (List.headD (Array.toList (Value.cells (at_ (elems v20) (Int.toNat x4)))) (Value.tuple ⟨[]⟩))))
 Prog.fail
 (Nat.ble 1 (List.length (Array.toList (Value.cells (at_ (elems v20) (Int.toNat x4)))))))
 Prog.fail
 (Nat.ble 1 (List.length (Array.toList (Value.cells (at_ (elems v20) (Int.toNat x4)))))))
 Prog.fail
 (((Nat.ble (Nat.succ (Int.toNat x4)) (List.length (elems v20))) && Bool.true) && (hdOk 4 (elems v20))))
 Prog.fail
 (decide ((0 : Int) ≤ x4)))
 Prog.fail
 (isLst v20))))
 (Bool.not (boolOf v18)))
 Prog.fail
 (okK Kd.bool v18))))
 Prog.fail
 (okKs ((Kd.int IntKind.i64) :: (Kd.lst :: (Kd.lst :: (Kd.lst :: [])))) (List.take 4 (Array.toList (Value.cells (at_ (elems v16) (Int.toNat x4)))))))
 Prog.fail
 (Nat.ble 4 (List.length (Array.toList (Value.cells (at_ (elems v16) (Int.toNat x4)))))))
 Prog.fail
 (((Nat.ble (Nat.succ (Int.toNat x4)) (List.length (elems v16))) && Bool.true) && (hdOk 4 (elems v16))))
 Prog.fail
 (decide ((0 : Int) ≤ x4)))
 Prog.fail
 (isLst v16)))
 (decide ((intOf (List.headD (Array.toList (Value.cells (at_ (elems v15) (Int.toNat x4)))) (Value.tuple ⟨[]⟩))) = (101 : Int))))
 Prog.fail
 (okK (Kd.int IntKind.i64) (List.headD (Array.toList (Value.cells (at_ (elems v15) (Int.toNat x4)))) (Value.tuple ⟨[]⟩))))
 Prog.fail
 (Nat.ble 1 (List.length (Array.toList (Value.cells (at_ (elems v15) (Int.toNat x4)))))))
 Prog.fail
 (Nat.ble 1 (List.length (Array.toList (Value.cells (at_ (elems v15) (Int.toNat x4)))))))
 Prog.fail
 (((Nat.ble (Nat.succ (Int.toNat x4)) (List.length (elems v15))) && Bool.true) && (hdOk 4 (elems v15))))
 Prog.fail
 (decide ((0 : Int) ≤ x4)))
 Prog.fail
 (isLst v15)))
 (loadT En 30 x1 (x1o + 3)))
 (Prog.ret (Value.bool (Bool.not x3)))
 (decide (x4 < (Int.ofNat (List.length (elems v14))))))
 Prog.fail
 (isLst v14)))
 (loadT En 30 x1 (x1o + 3))) := by kernel_rfl
theorem f126_eq (f : Nat) (x0_0 : Int) (x0_1 : List Value) (x0_2 : List Value) (x0_3 : List Value) : callF En (runP En (f + 1)) 126 [(Value.agg ⟨((Value.int IntKind.i64 x0_0) :: ((lstV x0_1) :: ((lstV x0_2) :: ((lstV x0_3) :: []))))⟩)] =
 (gd Bool.true
 (callP (fun v25 =>
 (cnd
 (callP (fun v26 =>
 (cnd
 (p126_3 f (blkOf v25) (offOf v25) (decide ((Int.ofNat (List.length (elems v26))) > (0 : Int))) (0 : Int))
 Prog.fail
 (isLst v26)))
 (loadT En 30 (blkOf v25) ((offOf v25) + 3)))
 Prog.fail
 (isPt v25)))
 (Prog.newH (Hdr.mk 4 32 Bool.false Bool.true Bool.true 0 Bool.false Bool.false []) ((Value.int IntKind.i64 x0_0) :: ((lstV x0_1) :: ((lstV x0_2) :: ((lstV x0_3) :: [])))) (fun z24 => (Prog.ret (itP z24)))))) := by kernel_rfl
end Go.Proofs.YtmjbmbmnnephjaaGreatDoor
/- What comes of the points of a function: printed by the tool. -/
namespace Go.Proofs.YtmjbmbmnnephjaaGreatDoor
open Go Go.Ev Go.Proofs
set_option maxRecDepth 8000
set_option linter.unusedVariables false
noncomputable def p127_4 (f : Nat) (x1 : Nat) (x1o : Nat) (x3 : Int) : Prog := runP En f 127 (tmL 65 [(1, (Value.pointer (Option.some (Addr.mk x1 x1o Option.none)))), (3, (Value.int IntKind.i64 x3))]) [.code (cL (cL (cI (cI (cR (cL (cR (cR (cB 127))))))))), .code (cR (cL (cI (cI (cR (cL (cR (cR (cB 127))))))))), .code (cR (cI (cI (cR (cL (cR (cR (cB 127)))))))), .inLoop (cI (cI (cR (cL (cR (cR (cB 127))))))), .inBlock 0, .code (cR (cR (cR (cB 127))))] [] none
theorem f127_eq (f : Nat) (x0_0 : Int) (x0_1 : List Value) (x0_2 : List Value) (x0_3 : List Value) : callF En (runP En (f + 1)) 127 [(Value.agg ⟨((Value.int IntKind.i64 x0_0) :: ((lstV x0_1) :: ((lstV x0_2) :: ((lstV x0_3) :: []))))⟩)] =
 (gd Bool.true
 (callP (fun v27 =>
 (cnd
 (callP (fun v28 =>
 (cnd
 (cnd
 (Prog.ret (Value.bool Bool.false))
 (callP (fun v29 =>
 (cnd
 (callP (fun v30 =>
 (cnd
 (cnd
 (Prog.ret (Value.bool Bool.false))
 (p127_4 f (blkOf v27) (offOf v27) (0 : Int))
 (Bool.not (decide ((Int.ofNat (List.length (elems v29))) = (Int.ofNat (List.length (elems v30)))))))
 Prog.fail
 (isLst v30)))
 (loadT En 30 (blkOf v27) ((offOf v27) + 3)))
 Prog.fail
 (isLst v29)))
 (loadT En 29 (blkOf v27) ((offOf v27) + 2)))
 (decide ((Int.ofNat (List.length (elems v28))) = (0 : Int))))
 Prog.fail
 (isLst v28)))
 (loadT En 29 (blkOf v27) ((offOf v27) + 2)))
 Prog.fail
 (isPt v27)))
 (Prog.newH (Hdr.mk 4 32 Bool.false Bool.true Bool.true 0 Bool.false Bool.false []) ((Value.int IntKind.i64 x0_0) :: ((lstV x0_1) :: ((lstV x0_2) :: ((lstV x0_3) :: [])))) (fun z26 => (Prog.ret (itP z26)))))) := by kernel_rfl
end Go.Proofs.YtmjbmbmnnephjaaGreatDoor
/- What comes of the points of a function: printed by the tool. -/
namespace Go.Proofs.YtmjbmbmnnephjaaGreatDoor
open Go Go.Ev Go.Proofs
set_option maxRecDepth 8000
set_option linter.unusedVariables false
noncomputable def p129_2 (f : Nat) (x0 : ByteArray) (x3 : Int) : Prog := runP En f 129 (tmL 14 [(0, (Value.string x0)), (3, (Value.int IntKind.i64 x3))]) [.code (cL (cL (cI (cI (cR (cL (cR (cB 129)))))))), .code (cR (cL (cI (cI (cR (cL (cR (cB 129)))))))), .code (cR (cI (cI (cR (cL (cR (cB 129))))))), .inLoop (cI (cI (cR (cL (cR (cB 129)))))), .inBlock 0, .code (cR (cR (cB 129)))] [] none
theorem p129_2_eq (f : Nat) (x0 : ByteArray) (x3 : Int) : p129_2 (f + 1) x0 x3 =
 (cnd
 (cnd
 (cnd
 (cnd
 (Prog.ret (Value.bool Bool.false))
 (p129_2 f x0 (IntKind.wrap IntKind.i64 (x3 + (1 : Int))))
 (decide ((Int.ofNat (byteAt x0 (Int.toNat x3))) = (0 : Int))))
 Prog.fail
 (Nat.ble (Nat.succ (Int.toNat x3)) (List.length (Array.toList (ByteArray.data x0)))))
 Prog.fail
 (decide ((0 : Int) ≤ x3)))
 (Prog.ret (Value.bool Bool.true))
 (decide (x3 < (Int.ofNat (List.length (Array.toList (ByteArray.data x0))))))) := by kernel_rfl
theorem f129_eq (f : Nat) (x0 : ByteArray) : callF En (runP En (f + 1)) 129 [(Value.string x0)] =
 (p129_2 f x0 (0 : Int)) := by kernel_rfl
end Go.Proofs.YtmjbmbmnnephjaaGreatDoor
/- What comes of the points of a function: printed by the tool. -/
namespace Go.Proofs.YtmjbmbmnnephjaaGreatDoor
open Go Go.Ev Go.Proofs
set_option maxRecDepth 8000
set_option linter.unusedVariables false
theorem f130_eq (f : Nat) (x0 : Int) : callF En (runP En (f + 1)) 130 [(Value.int IntKind.i64 x0)] =
 (cnd
 (Prog.call (callF En (runP En f) 181 [(Value.int IntKind.u64 (IntKind.wrap IntKind.u64 ((IntKind.wrap IntKind.u64 (IntKind.wrap IntKind.i64 ((0 : Int) + (Int.neg (IntKind.wrap IntKind.i64 (x0 + (1 : Int))))))) + (1 : Int))))]) fun v3 =>
 (cnd
 (cnd
 (Prog.ret (Value.string (mkStr ((45 : UInt8) :: (Array.toList (ByteArray.data (strOf v3)))))))
 Prog.fail
 (Nat.ble (1 + (List.length (Array.toList (ByteArray.data (strOf v3))))) 9223372036854775807))
 Prog.fail
 (okK Kd.str v3)))
 (Prog.call (callF En (runP En f) 181 [(Value.int IntKind.u64 (IntKind.wrap IntKind.u64 x0))]) fun v4 =>
 (cnd
 (Prog.ret (Value.string (strOf v4)))
 Prog.fail
 (okK Kd.str v4)))
 (decide (x0 < (0 : Int)))) := by kernel_rfl
end Go.Proofs.YtmjbmbmnnephjaaGreatDoor
/- What comes of the points of a function: printed by the tool. -/
namespace Go.Proofs.YtmjbmbmnnephjaaGreatDoor
open Go Go.Ev Go.Proofs
set_option maxRecDepth 8000
set_option linter.unusedVariables false
noncomputable def p131_6 (f : Nat) (x3 : ByteArray) (x4 : Int) : Prog := runP En f 131 (tmL 44 [(3, (Value.string x3)), (4, (Value.int IntKind.u64 x4))]) [.code (cL (cR (cR (cR (cR (cB 131)))))), .code (cR (cR (cR (cR (cR (cB 131))))))] [] none
noncomputable def p131_7 (f : Nat) (x3 : ByteArray) (x4 : Int) (x5 : ByteArray) : Prog := runP En f 131 (tmL 44 [(3, (Value.string x3)), (4, (Value.int IntKind.u64 x4)), (5, (Value.string x5))]) [.code (cL (cL (cI (cI (cL (cR (cR (cR (cR (cR (cB 131))))))))))), .code (cR (cL (cI (cI (cL (cR (cR (cR (cR (cR (cB 131))))))))))), .code (cR (cI (cI (cL (cR (cR (cR (cR (cR (cB 131)))))))))), .inLoop (cI (cI (cL (cR (cR (cR (cR (cR (cB 131))))))))), .inBlock 0, .code (cR (cR (cR (cR (cR (cR (cB 131)))))))] [] none
theorem p131_6_eq (f : Nat) (x3 : ByteArray) (x4 : Int) : p131_6 (f + 1) x3 x4 =
 (Prog.call (callF En (runP En f) 181 [(Value.int IntKind.u64 (IntKind.wrap IntKind.u64 ((Int.tmod x4 (10000 : Int)) + (10000 : Int))))]) fun v4 =>
 (cnd
 (cnd
 (p131_7 f x3 x4 (mkStr (List.take ((List.length (Array.toList (ByteArray.data (strOf v4)))) - 1) (List.drop 1 (Array.toList (ByteArray.data (strOf v4)))))))
 Prog.fail
 ((Nat.ble 1 (List.length (Array.toList (ByteArray.data (strOf v4))))) && (Nat.ble (List.length (Array.toList (ByteArray.data (strOf v4)))) (List.length (Array.toList (ByteArray.data (strOf v4)))))))
 Prog.fail
 (okK Kd.str v4))) := by kernel_rfl
theorem p131_7_eq (f : Nat) (x3 : ByteArray) (x4 : Int) (x5 : ByteArray) : p131_7 (f + 1) x3 x4 x5 =
 (cnd
 (cnd
 (cnd
 (cnd
 (cnd
 (cnd
 (p131_7 f x3 x4 (mkStr (List.take ((Int.toNat (IntKind.wrap IntKind.i64 (Int.subNatNat (List.length (Array.toList (ByteArray.data x5))) 1))) - 0) (Array.toList (ByteArray.data x5)))))
 Prog.fail
 ((Nat.ble 0 (Int.toNat (IntKind.wrap IntKind.i64 (Int.subNatNat (List.length (Array.toList (ByteArray.data x5))) 1)))) && (Nat.ble (Int.toNat (IntKind.wrap IntKind.i64 (Int.subNatNat (List.length (Array.toList (ByteArray.data x5))) 1))) (List.length (Array.toList (ByteArray.data x5))))))
 Prog.fail
 (decide ((0 : Int) ≤ (IntKind.wrap IntKind.i64 (Int.subNatNat (List.length (Array.toList (ByteArray.data x5))) 1)))))
 (Prog.call (callF En (runP En f) 181 [(Value.int IntKind.u64 (IntKind.wrap IntKind.u64 (Int.tdiv x4 (10000 : Int))))]) fun v5 =>
 (cnd
 (cnd
 (cnd
 (cnd
 (Prog.ret (Value.string (mkStr ((((Array.toList (ByteArray.data x3)) ++ (Array.toList (ByteArray.data (strOf v5)))) ++ ((46 : UInt8) :: [])) ++ (Array.toList (ByteArray.data x5))))))
 Prog.fail
 (Nat.ble ((List.length (((Array.toList (ByteArray.data x3)) ++ (Array.toList (ByteArray.data (strOf v5)))) ++ ((46 : UInt8) :: []))) + (List.length (Array.toList (ByteArray.data x5)))) 9223372036854775807))
 Prog.fail
 (Nat.ble ((List.length ((Array.toList (ByteArray.data x3)) ++ (Array.toList (ByteArray.data (strOf v5))))) + 1) 9223372036854775807))
 Prog.fail
 (Nat.ble ((List.length (Array.toList (ByteArray.data x3))) + (List.length (Array.toList (ByteArray.data (strOf v5))))) 9223372036854775807))
 Prog.fail
 (okK Kd.str v5)))
 (decide ((Int.ofNat (byteAt x5 (Int.toNat (IntKind.wrap IntKind.i64 (Int.subNatNat (List.length (Array.toList (ByteArray.data x5))) 1))))) = (48 : Int))))
 Prog.fail
 (Nat.ble (Nat.succ (Int.toNat (IntKind.wrap IntKind.i64 (Int.subNatNat (List.length (Array.toList (ByteArray.data x5))) 1)))) (List.length (Array.toList (ByteArray.data x5)))))
 Prog.fail
 (decide ((0 : Int) ≤ (IntKind.wrap IntKind.i64 (Int.subNatNat (List.length (Array.toList (ByteArray.data x5))) 1)))))
 (Prog.call (callF En (runP En f) 181 [(Value.int IntKind.u64 (IntKind.wrap IntKind.u64 (Int.tdiv x4 (10000 : Int))))]) fun v6 =>
 (cnd
 (cnd
 (cnd
 (cnd
 (Prog.ret (Value.string (mkStr ((((Array.toList (ByteArray.data x3)) ++ (Array.toList (ByteArray.data (strOf v6)))) ++ ((46 : UInt8) :: [])) ++ (Array.toList (ByteArray.data x5))))))
 Prog.fail
 (Nat.ble ((List.length (((Array.toList (ByteArray.data x3)) ++ (Array.toList (ByteArray.data (strOf v6)))) ++ ((46 : UInt8) :: []))) + (List.length (Array.toList (ByteArray.data x5)))) 9223372036854775807))
 Prog.fail
 (Nat.ble ((List.length ((Array.toList (ByteArray.data x3)) ++ (Array.toList (ByteArray.data (strOf v6))))) + 1) 9223372036854775807))
 Prog.fail
 (Nat.ble ((List.length (Array.toList (ByteArray.data x3))) + (List.length (Array.toList (ByteArray.data (strOf v6))))) 9223372036854775807))
 Prog.fail
 (okK Kd.str v6)))
 (decide ((Int.ofNat (List.length (Array.toList (ByteArray.data x5)))) > (1 : Int)))) := by kernel_rfl
theorem f131_eq (f : Nat) (x0 : Int) : callF En (runP En (f + 1)) 131 [(Value.int IntKind.i64 x0)] =
 (cnd
 (p131_6 f (mkStr [45]) (IntKind.wrap IntKind.u64 ((IntKind.wrap IntKind.u64 (IntKind.wrap IntKind.i64 ((0 : Int) + (Int.neg (IntKind.wrap IntKind.i64 (x0 + (1 : Int))))))) + (1 : Int))))
 (p131_6 f (mkStr []) (IntKind.wrap IntKind.u64 x0))
 (decide (x0 < (0 : Int)))) := by kernel_rfl
end Go.Proofs.YtmjbmbmnnephjaaGreatDoor
/- What comes of the points of a function: printed by the tool. -/
namespace Go.Proofs.YtmjbmbmnnephjaaGreatDoor
open Go Go.Ev Go.Proofs
set_option maxRecDepth 8000
set_option linter.unusedVariables false
theorem f132_eq (f : Nat) (x0 : Int) : callF En (runP En (f + 1)) 132 [(Value.int IntKind.u8 x0)] =
 (cnd
 (cnd
 (Prog.ret (Value.bool Bool.true))
 (cnd
 (Prog.ret (Value.bool (decide (x0 ≤ (90 : Int)))))
 (Prog.ret (Value.bool Bool.false))
 (decide (x0 ≥ (65 : Int))))
 (decide (x0 ≤ (122 : Int))))
 (cnd
 (Prog.ret (Value.bool (decide (x0 ≤ (90 : Int)))))
 (Prog.ret (Value.bool Bool.false))
 (decide (x0 ≥ (65 : Int))))
 (decide (x0 ≥ (97 : Int)))) := by kernel_rfl
end Go.Proofs.YtmjbmbmnnephjaaGreatDoor
/- What comes of the points of a function: printed by the tool. -/
namespace Go.Proofs.YtmjbmbmnnephjaaGreatDoor
open Go Go.Ev Go.Proofs
set_option maxRecDepth 8000
set_option linter.unusedVariables false
theorem f133_eq (f : Nat) (x0 : Int) : callF En (runP En (f + 1)) 133 [(Value.int IntKind.u8 x0)] =
 (Prog.call (callF En (runP En f) 132 [(Value.int IntKind.u8 x0)]) fun v2 =>
 (cnd
 (cnd
 (Prog.ret (Value.bool Bool.true))
 (cnd
 (cnd
 (Prog.ret (Value.bool Bool.true))
 (cnd
 (Prog.ret (Value.bool Bool.true))
 (Prog.ret (Value.bool (decide (x0 = (46 : Int)))))
 (decide (x0 = (95 : Int))))
 (decide (x0 ≤ (57 : Int))))
 (cnd
 (Prog.ret (Value.bool Bool.true))
 (Prog.ret (Value.bool (decide (x0 = (46 : Int)))))
 (decide (x0 = (95 : Int))))
 (decide (x0 ≥ (48 : Int))))
 (boolOf v2))
 Prog.fail
 (okK Kd.bool v2))) := by kernel_rfl
end Go.Proofs.YtmjbmbmnnephjaaGreatDoor
/- What comes of the points of a function: printed by the tool. -/
namespace Go.Proofs.YtmjbmbmnnephjaaGreatDoor
open Go Go.Ev Go.Proofs
set_option maxRecDepth 8000
set_option linter.unusedVariables false
end Go.Proofs.YtmjbmbmnnephjaaGreatDoor
/- What comes of the points of a function: printed by the tool. -/
namespace Go.Proofs.YtmjbmbmnnephjaaGreatDoor
open Go Go.Ev Go.Proofs
set_option maxRecDepth 8000
set_option linter.unusedVariables false
end Go.Proofs.YtmjbmbmnnephjaaGreatDoor
/- What comes of the points of a function: printed by the tool. -/
namespace Go.Proofs.YtmjbmbmnnephjaaGreatDoor
open Go Go.Ev Go.Proofs
set_option maxRecDepth 8000
set_option linter.unusedVariables false
theorem f136_eq (f : Nat) (x0 : ByteArray) (x1 : ByteArray) : callF En (runP En (f + 1)) 136 [(Value.string x0), (Value.string x1)] =
 (Prog.call (callF En (runP En f) 184 [(Value.string x0), (Value.string x1)]) fun v2 =>
 (cnd
 (Prog.ret (Value.tuple ⟨((Value.string (strOf (at_ (tupOf v2) 0))) :: ((Value.bool (boolOf (at_ (tupOf v2) 1))) :: []))⟩))
 Prog.fail
 ((isTupV v2) && (okNs ((Nm.one Kd.str) :: ((Nm.one Kd.bool) :: [])) (tupOf v2))))) := by kernel_rfl
end Go.Proofs.YtmjbmbmnnephjaaGreatDoor
/- What comes of the points of a function: printed by the tool. -/
namespace Go.Proofs.YtmjbmbmnnephjaaGreatDoor
open Go Go.Ev Go.Proofs
set_option maxRecDepth 8000
set_option linter.unusedVariables false
theorem f141_eq (f : Nat) (x0 : ByteArray) (x1 : ByteArray) : callF En (runP En (f + 1)) 141 [(Value.string x0), (Value.string x1)] =
 (cnd
 (cnd
 (Prog.ret (Value.bool (beqB (List.take ((List.length (Array.toList (ByteArray.data x1))) - 0) (Array.toList (ByteArray.data x0))) (Array.toList (ByteArray.data x1)))))
 Prog.fail
 ((Nat.ble 0 (List.length (Array.toList (ByteArray.data x1)))) && (Nat.ble (List.length (Array.toList (ByteArray.data x1))) (List.length (Array.toList (ByteArray.data x0))))))
 (Prog.ret (Value.bool Bool.false))
 (decide ((Int.ofNat (List.length (Array.toList (ByteArray.data x0)))) ≥ (Int.ofNat (List.length (Array.toList (ByteArray.data x1))))))) := by kernel_rfl
end Go.Proofs.YtmjbmbmnnephjaaGreatDoor
/- What comes of the points of a function: printed by the tool. -/
namespace Go.Proofs.YtmjbmbmnnephjaaGreatDoor
open Go Go.Ev Go.Proofs
set_option maxRecDepth 8000
set_option linter.unusedVariables false
theorem f171_eq (f : Nat) (x0 : Nat) (x1 : Int) : callF En (runP En (f + 1)) 171 [(Value.pointer (Option.some (Addr.mk x0 0 Option.none))), (Value.int IntKind.u8 x1)] =
 (cnd
 (cnd
 (callP (fun v2 =>
 (cnd
 (Prog.ret (Value.bool (boolOf v2)))
 Prog.fail
 (okK Kd.bool v2)))
 (loadT En 4 x0 (0 + ((Int.toNat x1) * 1))))
 Prog.fail
 ((Nat.ble (Nat.succ (Int.toNat x1)) 256) && Bool.true))
 Prog.fail
 (decide ((0 : Int) ≤ x1))) := by kernel_rfl
end Go.Proofs.YtmjbmbmnnephjaaGreatDoor
/- What comes of the points of a function: printed by the tool. -/
namespace Go.Proofs.YtmjbmbmnnephjaaGreatDoor
open Go Go.Ev Go.Proofs
set_option maxRecDepth 8000
set_option linter.unusedVariables false
theorem f174_eq (f : Nat) (x0 : ByteArray) (x1 : ByteArray) : callF En (runP En (f + 1)) 174 [(Value.string x0), (Value.string x1)] =
 (Prog.call (callF En (runP En f) 211 [(Value.string x0), (Value.string x1)]) fun v2 =>
 (cnd
 (cnd
 (Prog.ret (Value.tuple ⟨((Value.string x0) :: ((Value.bool Bool.false) :: []))⟩))
 (cnd
 (cnd
 (Prog.ret (Value.tuple ⟨((Value.string (mkStr (List.take ((Int.toNat (IntKind.wrap IntKind.i64 ((Int.ofNat (List.length (Array.toList (ByteArray.data x0)))) + (Int.negOfNat (List.length (Array.toList (ByteArray.data x1))))))) - 0) (Array.toList (ByteArray.data x0))))) :: ((Value.bool Bool.true) :: []))⟩))
 Prog.fail
 ((Nat.ble 0 (Int.toNat (IntKind.wrap IntKind.i64 ((Int.ofNat (List.length (Array.toList (ByteArray.data x0)))) + (Int.negOfNat (List.length (Array.toList (ByteArray.data x1)))))))) && (Nat.ble (Int.toNat (IntKind.wrap IntKind.i64 ((Int.ofNat (List.length (Array.toList (ByteArray.data x0)))) + (Int.negOfNat (List.length (Array.toList (ByteArray.data x1))))))) (List.length (Array.toList (ByteArray.data x0))))))
 Prog.fail
 (decide ((0 : Int) ≤ (IntKind.wrap IntKind.i64 ((Int.ofNat (List.length (Array.toList (ByteArray.data x0)))) + (Int.negOfNat (List.length (Array.toList (ByteArray.data x1)))))))))
 (Bool.not (boolOf v2)))
 Prog.fail
 (okK Kd.bool v2))) := by kernel_rfl
end Go.Proofs.YtmjbmbmnnephjaaGreatDoor
/- What comes of the points of a function: printed by the tool. -/
namespace Go.Proofs.YtmjbmbmnnephjaaGreatDoor
open Go Go.Ev Go.Proofs
set_option maxRecDepth 8000
set_option linter.unusedVariables false
noncomputable def p176_1 (f : Nat) (x0 : ByteArray) (x1 : Nat) : Prog := runP En f 176 (tmL 16 [(0, (Value.string x0)), (1, (Value.pointer (Option.some (Addr.mk x1 0 Option.none))))]) [.code (cL (cL (cI (cI (cL (cR (cB 176))))))), .code (cR (cL (cI (cI (cL (cR (cB 176))))))), .code (cR (cI (cI (cL (cR (cB 176)))))), .inLoop (cI (cI (cL (cR (cB 176))))), .inBlock 0, .code (cR (cR (cB 176)))] [] none
noncomputable def p176_4 (f : Nat) (x0 : ByteArray) : Prog := runP En f 176 (tmL 16 [(0, (Value.string x0))]) [.code (cL (cR (cR (cB 176)))), .code (cR (cR (cR (cB 176))))] [] none
theorem p176_1_eq (f : Nat) (x0 : ByteArray) (x1 : Nat) : p176_1 (f + 1) x0 x1 =
 (cnd
 (cnd
 (Prog.call (callF En (runP En f) 171 [(Value.pointer (Option.some (Addr.mk x1 0 Option.none))), (Value.int IntKind.u8 (Int.ofNat (byteAt x0 0)))]) fun v2 =>
 (cnd
 (cnd
 (p176_4 f x0)
 (cnd
 (p176_1 f (mkStr (List.take ((List.length (Array.toList (ByteArray.data x0))) - 1) (List.drop 1 (Array.toList (ByteArray.data x0))))) x1)
 Prog.fail
 ((Nat.ble 1 (List.length (Array.toList (ByteArray.data x0)))) && (Nat.ble (List.length (Array.toList (ByteArray.data x0))) (List.length (Array.toList (ByteArray.data x0))))))
 (Bool.not (boolOf v2)))
 Prog.fail
 (okK Kd.bool v2)))
 Prog.fail
 (Nat.ble 1 (List.length (Array.toList (ByteArray.data x0)))))
 (p176_4 f x0)
 (decide ((Int.ofNat (List.length (Array.toList (ByteArray.data x0)))) > (0 : Int)))) := by kernel_rfl
theorem p176_4_eq (f : Nat) (x0 : ByteArray) : p176_4 (f + 1) x0 =
 (Prog.ret (Value.string x0)) := by kernel_rfl
theorem f176_eq (f : Nat) (x0 : ByteArray) (x1 : Nat) : callF En (runP En (f + 1)) 176 [(Value.string x0), (Value.pointer (Option.some (Addr.mk x1 0 Option.none)))] =
 (p176_1 f x0 x1) := by kernel_rfl
end Go.Proofs.YtmjbmbmnnephjaaGreatDoor
/- What comes of the points of a function: printed by the tool. -/
namespace Go.Proofs.YtmjbmbmnnephjaaGreatDoor
open Go Go.Ev Go.Proofs
set_option maxRecDepth 8000
set_option linter.unusedVariables false
theorem f178_eq (f : Nat) (x0 : ByteArray) (x1 : ByteArray) : callF En (runP En (f + 1)) 178 [(Value.string x0), (Value.string x1)] =
 (Prog.call (callF En (runP En f) 212 [(Value.string x0), (Value.string x1)]) fun v2 =>
 (cnd
 (Prog.ret (Value.tuple ⟨((Value.string (strOf (at_ (tupOf v2) 0))) :: ((Value.string (strOf (at_ (tupOf v2) 1))) :: ((Value.bool (boolOf (at_ (tupOf v2) 2))) :: [])))⟩))
 Prog.fail
 ((isTupV v2) && (okNs ((Nm.one Kd.str) :: ((Nm.one Kd.str) :: ((Nm.one Kd.bool) :: []))) (tupOf v2))))) := by kernel_rfl
end Go.Proofs.YtmjbmbmnnephjaaGreatDoor
/- What comes of the points of a function: printed by the tool. -/
namespace Go.Proofs.YtmjbmbmnnephjaaGreatDoor
open Go Go.Ev Go.Proofs
set_option maxRecDepth 8000
set_option linter.unusedVariables false
theorem f179_eq (f : Nat) (x0 : ByteArray) (x1 : Int) (x2 : Int) : callF En (runP En (f + 1)) 179 [(Value.string x0), (Value.int IntKind.i64 x1), (Value.int IntKind.i64 x2)] =
 (Prog.call (callF En (runP En f) 213 [(Value.string x0), (Value.int IntKind.i64 x1), (Value.int IntKind.i64 x2)]) fun v4 =>
 (cnd
 (binK En BinOp.neq 103 (Operand.tmp 17) (Operand.const Value.nilIface) (at_ (tupOf v4) 1) Value.nilIface fun v5 =>
 (cnd
 (cnd
 (Prog.call (callF En (runP En f) 214 [(Value.string (mkStr [80, 97, 114, 115, 101, 85, 105, 110, 116])), (Value.string x0), (Value.int IntKind.i64 x1), (Value.int IntKind.i64 x2), (at_ (tupOf v4) 1)]) fun v6 =>
 (Prog.ret (Value.tuple ⟨((Value.int IntKind.u64 (intOf (at_ (tupOf v4) 0))) :: (v6 :: []))⟩)))
 (Prog.ret (Value.tuple ⟨((Value.int IntKind.u64 (intOf (at_ (tupOf v4) 0))) :: (Value.nilIface :: []))⟩))
 (boolOf v5))
 Prog.fail
 (okK Kd.bool v5)))
 Prog.fail
 ((isTupV v4) && (okNs ((Nm.one (Kd.int IntKind.u64)) :: ((Nm.one Kd.raw) :: [])) (tupOf v4))))) := by kernel_rfl
end Go.Proofs.YtmjbmbmnnephjaaGreatDoor
/- What comes of the points of a function: printed by the tool. -/
namespace Go.Proofs.YtmjbmbmnnephjaaGreatDoor
open Go Go.Ev Go.Proofs
set_option maxRecDepth 8000
set_option linter.unusedVariables false
theorem f181_eq (f : Nat) (x0 : Int) : callF En (runP En (f + 1)) 181 [(Value.int IntKind.u64 x0)] =
 (cnd
 (cnd
 (cnd
 (cnd
 (Prog.ret (Value.string (mkStr (List.take ((Int.toNat (IntKind.wrap IntKind.u64 (x0 + (1 : Int)))) - (Int.toNat x0)) (List.drop (Int.toNat x0) ((48 : UInt8) :: ((49 : UInt8) :: ((50 : UInt8) :: ((51 : UInt8) :: ((52 : UInt8) :: ((53 : UInt8) :: ((54 : UInt8) :: ((55 : UInt8) :: ((56 : UInt8) :: ((57 : UInt8) :: [])))))))))))))))
 Prog.fail
 ((Nat.ble (Int.toNat x0) (Int.toNat (IntKind.wrap IntKind.u64 (x0 + (1 : Int))))) && (Nat.ble (Int.toNat (IntKind.wrap IntKind.u64 (x0 + (1 : Int)))) 10)))
 Prog.fail
 (decide ((0 : Int) ≤ (IntKind.wrap IntKind.u64 (x0 + (1 : Int))))))
 Prog.fail
 (decide ((0 : Int) ≤ x0)))
 (Prog.call (callF En (runP En f) 181 [(Value.int IntKind.u64 (IntKind.wrap IntKind.u64 (Int.tdiv x0 (10 : Int))))]) fun v3 =>
 (cnd
 (Prog.call (callF En (runP En f) 181 [(Value.int IntKind.u64 (Int.tmod x0 (10 : Int)))]) fun v4 =>
 (cnd
 (cnd
 (Prog.ret (Value.string (mkStr ((Array.toList (ByteArray.data (strOf v3))) ++ (Array.toList (ByteArray.data (strOf v4)))))))
 Prog.fail
 (Nat.ble ((List.length (Array.toList (ByteArray.data (strOf v3)))) + (List.length (Array.toList (ByteArray.data (strOf v4))))) 9223372036854775807))
 Prog.fail
 (okK Kd.str v4)))
 Prog.fail
 (okK Kd.str v3)))
 (decide (x0 < (10 : Int)))) := by kernel_rfl
end Go.Proofs.YtmjbmbmnnephjaaGreatDoor
/- What comes of the points of a function: printed by the tool. -/
namespace Go.Proofs.YtmjbmbmnnephjaaGreatDoor
open Go Go.Ev Go.Proofs
set_option maxRecDepth 8000
set_option linter.unusedVariables false
theorem f184_eq (f : Nat) (x0 : ByteArray) (x1 : ByteArray) : callF En (runP En (f + 1)) 184 [(Value.string x0), (Value.string x1)] =
 (Prog.call (callF En (runP En f) 141 [(Value.string x0), (Value.string x1)]) fun v2 =>
 (cnd
 (cnd
 (Prog.ret (Value.tuple ⟨((Value.string x0) :: ((Value.bool Bool.false) :: []))⟩))
 (cnd
 (Prog.ret (Value.tuple ⟨((Value.string (mkStr (List.take ((List.length (Array.toList (ByteArray.data x0))) - (List.length (Array.toList (ByteArray.data x1)))) (List.drop (List.length (Array.toList (ByteArray.data x1))) (Array.toList (ByteArray.data x0)))))) :: ((Value.bool Bool.true) :: []))⟩))
 Prog.fail
 ((Nat.ble (List.length (Array.toList (ByteArray.data x1))) (List.length (Array.toList (ByteArray.data x0)))) && (Nat.ble (List.length (Array.toList (ByteArray.data x0))) (List.length (Array.toList (ByteArray.data x0))))))
 (Bool.not (boolOf v2)))
 Prog.fail
 (okK Kd.bool v2))) := by kernel_rfl
end Go.Proofs.YtmjbmbmnnephjaaGreatDoor
/- What comes of the points of a function: printed by the tool. -/
namespace Go.Proofs.YtmjbmbmnnephjaaGreatDoor
open Go Go.Ev Go.Proofs
set_option maxRecDepth 8000
set_option linter.unusedVariables false
theorem f211_eq (f : Nat) (x0 : ByteArray) (x1 : ByteArray) : callF En (runP En (f + 1)) 211 [(Value.string x0), (Value.string x1)] =
 (cnd
 (cnd
 (cnd
 (Prog.ret (Value.bool (beqB (List.take ((List.length (Array.toList (ByteArray.data x0))) - (Int.toNat (IntKind.wrap IntKind.i64 ((Int.ofNat (List.length (Array.toList (ByteArray.data x0)))) + (Int.negOfNat (List.length (Array.toList (ByteArray.data x1)))))))) (List.drop (Int.toNat (IntKind.wrap IntKind.i64 ((Int.ofNat (List.length (Array.toList (ByteArray.data x0)))) + (Int.negOfNat (List.length (Array.toList (ByteArray.data x1))))))) (Array.toList (ByteArray.data x0)))) (Array.toList (ByteArray.data x1)))))
 Prog.fail
 ((Nat.ble (Int.toNat (IntKind.wrap IntKind.i64 ((Int.ofNat (List.length (Array.toList (ByteArray.data x0)))) + (Int.negOfNat (List.length (Array.toList (ByteArray.data x1))))))) (List.length (Array.toList (ByteArray.data x0)))) && (Nat.ble (List.length (Array.toList (ByteArray.data x0))) (List.length (Array.toList (ByteArray.data x0))))))
 Prog.fail
 (decide ((0 : Int) ≤ (IntKind.wrap IntKind.i64 ((Int.ofNat (List.length (Array.toList (ByteArray.data x0)))) + (Int.negOfNat (List.length (Array.toList (ByteArray.data x1)))))))))
 (Prog.ret (Value.bool Bool.false))
 (decide ((Int.ofNat (List.length (Array.toList (ByteArray.data x0)))) ≥ (Int.ofNat (List.length (Array.toList (ByteArray.data x1))))))) := by kernel_rfl
end Go.Proofs.YtmjbmbmnnephjaaGreatDoor
/- What comes of the points of a function: printed by the tool. -/
namespace Go.Proofs.YtmjbmbmnnephjaaGreatDoor
open Go Go.Ev Go.Proofs
set_option maxRecDepth 8000
set_option linter.unusedVariables false
theorem f212_eq (f : Nat) (x0 : ByteArray) (x1 : ByteArray) : callF En (runP En (f + 1)) 212 [(Value.string x0), (Value.string x1)] =
 (Prog.call (callF En (runP En f) 226 [(Value.string x0), (Value.string x1)]) fun v2 =>
 (cnd
 (cnd
 (cnd
 (cnd
 (cnd
 (cnd
 (Prog.ret (Value.tuple ⟨((Value.string (mkStr (List.take ((Int.toNat (intOf v2)) - 0) (Array.toList (ByteArray.data x0))))) :: ((Value.string (mkStr (List.take ((List.length (Array.toList (ByteArray.data x0))) - (Int.toNat (IntKind.wrap IntKind.i64 ((intOf v2) + (Int.ofNat (List.length (Array.toList (ByteArray.data x1)))))))) (List.drop (Int.toNat (IntKind.wrap IntKind.i64 ((intOf v2) + (Int.ofNat (List.length (Array.toList (ByteArray.data x1))))))) (Array.toList (ByteArray.data x0)))))) :: ((Value.bool Bool.true) :: [])))⟩))
 Prog.fail
 ((Nat.ble (Int.toNat (IntKind.wrap IntKind.i64 ((intOf v2) + (Int.ofNat (List.length (Array.toList (ByteArray.data x1))))))) (List.length (Array.toList (ByteArray.data x0)))) && (Nat.ble (List.length (Array.toList (ByteArray.data x0))) (List.length (Array.toList (ByteArray.data x0))))))
 Prog.fail
 (decide ((0 : Int) ≤ (IntKind.wrap IntKind.i64 ((intOf v2) + (Int.ofNat (List.length (Array.toList (ByteArray.data x1)))))))))
 Prog.fail
 ((Nat.ble 0 (Int.toNat (intOf v2))) && (Nat.ble (Int.toNat (intOf v2)) (List.length (Array.toList (ByteArray.data x0))))))
 Prog.fail
 (decide ((0 : Int) ≤ (intOf v2))))
 (Prog.ret (Value.tuple ⟨((Value.string x0) :: ((Value.string (mkStr [])) :: ((Value.bool Bool.false) :: [])))⟩))
 (decide ((intOf v2) ≥ (0 : Int))))
 Prog.fail
 (okK (Kd.int IntKind.i64) v2))) := by kernel_rfl
end Go.Proofs.YtmjbmbmnnephjaaGreatDoor
