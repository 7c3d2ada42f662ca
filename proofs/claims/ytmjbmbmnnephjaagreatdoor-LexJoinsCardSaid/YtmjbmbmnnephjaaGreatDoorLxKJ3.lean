/- What comes of the points of a function: printed by the tool. -/
import Derived.Test.YtmjbmbmnnephjaaGreatDoorLxKJ2
namespace Go.Proofs.YtmjbmbmnnephjaaGreatDoor
open Go Go.Ev Go.Proofs
set_option maxRecDepth 8000
set_option linter.unusedVariables false
noncomputable def p5_3 (f : Nat) (x0 : List Value) (x1 : ByteArray) (x5 : Int) (x6 : Int) : Prog := runP En f 5 (tmL 55 [(0, (lstV x0)), (1, (Value.string x1)), (5, (Value.int IntKind.i64 x5)), (6, (Value.int IntKind.i64 x6))]) [.code (cL (cL (cI (cI (cR (cL (cR (cR (cB 5))))))))), .code (cR (cL (cI (cI (cR (cL (cR (cR (cB 5))))))))), .code (cR (cI (cI (cR (cL (cR (cR (cB 5)))))))), .inLoop (cI (cI (cR (cL (cR (cR (cB 5))))))), .inBlock 0, .code (cR (cR (cR (cB 5))))] [] none
theorem p5_3_eq (f : Nat) (x0 : List Value) (x1 : ByteArray) (x5 : Int) (x6 : Int) : p5_3 (f + 1) x0 x1 x5 x6 =
  (cnd
    (cnd
      (cnd
        (cnd
          (cnd
            (cnd
              (cnd
                (p5_3 f x0 x1 (IntKind.wrap IntKind.i64 ((IntKind.wrap IntKind.i64 (x5 + (Int.ofNat (List.length (Array.toList (ByteArray.data (strOf (List.headD (List.drop 3 (Array.toList (Value.cells (at_ x0 (Int.toNat x6))))) (Value.tuple ⟨[]⟩))))))))) + (1 : Int))) (IntKind.wrap IntKind.i64 (x6 + (1 : Int))))
                Prog.fail
                (okK Kd.str (List.headD (List.drop 3 (Array.toList (Value.cells (at_ x0 (Int.toNat x6))))) (Value.tuple ⟨[]⟩))))
              Prog.fail
              (Nat.ble 1 (List.length (List.drop 3 (Array.toList (Value.cells (at_ x0 (Int.toNat x6))))))))
            Prog.fail
            (Nat.ble 4 (List.length (Array.toList (Value.cells (at_ x0 (Int.toNat x6)))))))
          Prog.fail
          (((Nat.ble (Nat.succ (Int.toNat x6)) (List.length x0)) && Bool.true) && (hdOk 8 x0)))
        Prog.fail
        (decide ((0 : Int) ≤ x6)))
      (cnd
        (Prog.call (callF En (runP En f) 10 []) fun v1 =>
          (cnd
            (Prog.ret (Value.bool (boolOf v1)))
            Prog.fail
            (okK Kd.bool v1)))
        (callP (fun v2 =>
          (Prog.call (callF En (runP En f) 19 [v2]) fun v3 =>
            (cnd
              (Prog.call (callF En (runP En f) 20 [(lstV x0)]) fun v4 =>
                (cnd
                  (cnd
                    (Prog.call (callF En (runP En f) 21 [(Value.string x1)]) fun v5 =>
                      (cnd
                        (Prog.call (callF En (runP En f) 22 [(Value.string x1)]) fun v6 =>
                          (cnd
                            (cnd
                              (Prog.call (callF En (runP En f) 23 [(lstV x0), v2, (Value.bool Bool.true)]) fun v7 =>
                                (cnd
                                  (cnd
                                    (Prog.call (callF En (runP En f) 10 []) fun v8 =>
                                      (cnd
                                        (Prog.ret (Value.bool (boolOf v8)))
                                        Prog.fail
                                        (okK Kd.bool v8)))
                                    (Prog.ret (Value.bool Bool.false))
                                    (boolOf v7))
                                  Prog.fail
                                  (okK Kd.bool v7)))
                              (Prog.ret (Value.bool Bool.false))
                              (decide ((boolOf v5) = (boolOf v6))))
                            Prog.fail
                            (okK Kd.bool v6)))
                        Prog.fail
                        (okK Kd.bool v5)))
                    (Prog.ret (Value.bool Bool.false))
                    (beqB (Array.toList (ByteArray.data (strOf v3))) (Array.toList (ByteArray.data (strOf v4)))))
                  Prog.fail
                  (okK Kd.str v4)))
              Prog.fail
              (okK Kd.str v3))))
          (builtinA En Builtin.append (23 :: (23 :: [])) ((xlstV []) :: ((lstV x0) :: []))))
        (decide (x5 > (70000 : Int))))
      (decide (x5 ≤ (70000 : Int))))
    (cnd
      (Prog.call (callF En (runP En f) 10 []) fun v9 =>
        (cnd
          (Prog.ret (Value.bool (boolOf v9)))
          Prog.fail
          (okK Kd.bool v9)))
      (callP (fun v10 =>
        (Prog.call (callF En (runP En f) 19 [v10]) fun v11 =>
          (cnd
            (Prog.call (callF En (runP En f) 20 [(lstV x0)]) fun v12 =>
              (cnd
                (cnd
                  (Prog.call (callF En (runP En f) 21 [(Value.string x1)]) fun v13 =>
                    (cnd
                      (Prog.call (callF En (runP En f) 22 [(Value.string x1)]) fun v14 =>
                        (cnd
                          (cnd
                            (Prog.call (callF En (runP En f) 23 [(lstV x0), v10, (Value.bool Bool.true)]) fun v15 =>
                              (cnd
                                (cnd
                                  (Prog.call (callF En (runP En f) 10 []) fun v16 =>
                                    (cnd
                                      (Prog.ret (Value.bool (boolOf v16)))
                                      Prog.fail
                                      (okK Kd.bool v16)))
                                  (Prog.ret (Value.bool Bool.false))
                                  (boolOf v15))
                                Prog.fail
                                (okK Kd.bool v15)))
                            (Prog.ret (Value.bool Bool.false))
                            (decide ((boolOf v13) = (boolOf v14))))
                          Prog.fail
                          (okK Kd.bool v14)))
                      Prog.fail
                      (okK Kd.bool v13)))
                  (Prog.ret (Value.bool Bool.false))
                  (beqB (Array.toList (ByteArray.data (strOf v11))) (Array.toList (ByteArray.data (strOf v12)))))
                Prog.fail
                (okK Kd.str v12)))
            Prog.fail
            (okK Kd.str v11))))
        (builtinA En Builtin.append (23 :: (23 :: [])) ((xlstV []) :: ((lstV x0) :: []))))
      (decide (x5 > (70000 : Int))))
    (decide (x6 < (Int.ofNat (List.length x0))))) := by kernel_rfl
theorem f5_eq (f : Nat) (x0 : List Value) (x1 : ByteArray) : callF En (runP En (f + 1)) 5 [(lstV x0), (Value.string x1)] =
  (p5_3 f x0 x1 (Int.ofNat (List.length (Array.toList (ByteArray.data x1)))) (0 : Int)) := by kernel_rfl
end Go.Proofs.YtmjbmbmnnephjaaGreatDoor
/- What comes of the points of a function: printed by the tool. -/
namespace Go.Proofs.YtmjbmbmnnephjaaGreatDoor
open Go Go.Ev Go.Proofs
set_option maxRecDepth 8000
set_option linter.unusedVariables false
noncomputable def p18_4 (f : Nat) (x2 : Nat) (x2o : Nat) (x3 : Nat) (x3o : Nat) (x5 : Int) : Prog := runP En f 18 (tmL 95 [(2, (Value.pointer (Option.some (Addr.mk x2 x2o Option.none)))), (3, (Value.pointer (Option.some (Addr.mk x3 x3o Option.none)))), (5, (Value.int IntKind.i64 x5))]) [.code (cL (cL (cI (cI (cR (cL (cR (cR (cB 18))))))))), .code (cR (cL (cI (cI (cR (cL (cR (cR (cB 18))))))))), .code (cR (cI (cI (cR (cL (cR (cR (cB 18)))))))), .inLoop (cI (cI (cR (cL (cR (cR (cB 18))))))), .inBlock 0, .code (cR (cR (cR (cB 18))))] [] none
noncomputable def p18_9 (f : Nat) (x2 : Nat) (x2o : Nat) (x3 : Nat) (x3o : Nat) (x6 : Int) : Prog := runP En f 18 (tmL 95 [(2, (Value.pointer (Option.some (Addr.mk x2 x2o Option.none)))), (3, (Value.pointer (Option.some (Addr.mk x3 x3o Option.none)))), (6, (Value.int IntKind.i64 x6))]) [.code (cL (cL (cI (cI (cR (cL (cR (cR (cR (cB 18)))))))))), .code (cR (cL (cI (cI (cR (cL (cR (cR (cR (cB 18)))))))))), .code (cR (cI (cI (cR (cL (cR (cR (cR (cB 18))))))))), .inLoop (cI (cI (cR (cL (cR (cR (cR (cB 18)))))))), .inBlock 2, .code (cR (cR (cR (cR (cB 18)))))] [] none
noncomputable def p18_14 (f : Nat) (x2 : Nat) (x2o : Nat) (x3 : Nat) (x3o : Nat) (x7 : Int) : Prog := runP En f 18 (tmL 95 [(2, (Value.pointer (Option.some (Addr.mk x2 x2o Option.none)))), (3, (Value.pointer (Option.some (Addr.mk x3 x3o Option.none)))), (7, (Value.int IntKind.i64 x7))]) [.code (cL (cL (cI (cI (cR (cL (cR (cR (cR (cR (cB 18))))))))))), .code (cR (cL (cI (cI (cR (cL (cR (cR (cR (cR (cB 18))))))))))), .code (cR (cI (cI (cR (cL (cR (cR (cR (cR (cB 18)))))))))), .inLoop (cI (cI (cR (cL (cR (cR (cR (cR (cB 18))))))))), .inBlock 4, .code (cR (cR (cR (cR (cR (cB 18))))))] [] none
theorem p18_4_eq (f : Nat) (x2 : Nat) (x2o : Nat) (x3 : Nat) (x3o : Nat) (x5 : Int) : p18_4 (f + 1) x2 x2o x3 x3o x5 =
  (callP (fun v30 =>
    (cnd
      (cnd
        (Prog.seg (loadT En 28 x2 (x2o + 1)) fun v31 s32 _ =>
          (cnd
            (cnd
              (cnd
                (cnd
                  (cnd
                    (Prog.seg (loadT En 28 x3 (x3o + 1)) fun v33 s34 _ =>
                      (gdL 32 (writesOf s34) s34 [⟨1, writesOf s32, s32⟩]
                        (cnd
                          (cnd
                            (cnd
                              (cnd
                                (cnd
                                  (cnd
                                    (Prog.ret (Value.bool Bool.false))
                                    (p18_4 f x2 x2o x3 x3o (IntKind.wrap IntKind.i64 (x5 + (1 : Int))))
                                    (Bool.not (decide ((intOf (List.headD (Array.toList (Value.cells (at_ (elems v31) (Int.toNat x5)))) (Value.tuple ⟨[]⟩))) = (intOf (List.headD (Array.toList (Value.cells (at_ (elems v33) (Int.toNat x5)))) (Value.tuple ⟨[]⟩)))))))
                                  Prog.fail
                                  (okK (Kd.int IntKind.i64) (List.headD (Array.toList (Value.cells (at_ (elems v33) (Int.toNat x5)))) (Value.tuple ⟨[]⟩))))
                                Prog.fail
                                (Nat.ble 1 (List.length (Array.toList (Value.cells (at_ (elems v33) (Int.toNat x5)))))))
                              Prog.fail
                              (((Nat.ble (Nat.succ (Int.toNat x5)) (List.length (elems v33))) && Bool.true) && (hdOk 1 (elems v33))))
                            Prog.fail
                            (decide ((0 : Int) ≤ x5)))
                          Prog.fail
                          (isLst v33))))
                    Prog.fail
                    (okK (Kd.int IntKind.i64) (List.headD (Array.toList (Value.cells (at_ (elems v31) (Int.toNat x5)))) (Value.tuple ⟨[]⟩))))
                  Prog.fail
                  (Nat.ble 1 (List.length (Array.toList (Value.cells (at_ (elems v31) (Int.toNat x5)))))))
                Prog.fail
                (((Nat.ble (Nat.succ (Int.toNat x5)) (List.length (elems v31))) && Bool.true) && (hdOk 1 (elems v31))))
              Prog.fail
              (decide ((0 : Int) ≤ x5)))
            Prog.fail
            (isLst v31)))
        (p18_9 f x2 x2o x3 x3o (0 : Int))
        (decide (x5 < (Int.ofNat (List.length (elems v30))))))
      Prog.fail
      (isLst v30)))
    (loadT En 28 x2 (x2o + 1))) := by kernel_rfl
theorem p18_9_eq (f : Nat) (x2 : Nat) (x2o : Nat) (x3 : Nat) (x3o : Nat) (x6 : Int) : p18_9 (f + 1) x2 x2o x3 x3o x6 =
  (callP (fun v35 =>
    (cnd
      (cnd
        (Prog.seg (loadT En 29 x2 (x2o + 2)) fun v36 s37 _ =>
          (cnd
            (cnd
              (cnd
                (cnd
                  (cnd
                    (Prog.seg (loadT En 29 x3 (x3o + 2)) fun v38 s39 _ =>
                      (gdL 32 (writesOf s39) s39 [⟨1, writesOf s37, s37⟩]
                        (cnd
                          (cnd
                            (cnd
                              (cnd
                                (cnd
                                  (cnd
                                    (Prog.ret (Value.bool Bool.false))
                                    (p18_9 f x2 x2o x3 x3o (IntKind.wrap IntKind.i64 (x6 + (1 : Int))))
                                    (Bool.not (beqB (Array.toList (ByteArray.data (strOf (List.headD (Array.toList (Value.cells (at_ (elems v36) (Int.toNat x6)))) (Value.tuple ⟨[]⟩))))) (Array.toList (ByteArray.data (strOf (List.headD (Array.toList (Value.cells (at_ (elems v38) (Int.toNat x6)))) (Value.tuple ⟨[]⟩))))))))
                                  Prog.fail
                                  (okK Kd.str (List.headD (Array.toList (Value.cells (at_ (elems v38) (Int.toNat x6)))) (Value.tuple ⟨[]⟩))))
                                Prog.fail
                                (Nat.ble 1 (List.length (Array.toList (Value.cells (at_ (elems v38) (Int.toNat x6)))))))
                              Prog.fail
                              (((Nat.ble (Nat.succ (Int.toNat x6)) (List.length (elems v38))) && Bool.true) && (hdOk 1 (elems v38))))
                            Prog.fail
                            (decide ((0 : Int) ≤ x6)))
                          Prog.fail
                          (isLst v38))))
                    Prog.fail
                    (okK Kd.str (List.headD (Array.toList (Value.cells (at_ (elems v36) (Int.toNat x6)))) (Value.tuple ⟨[]⟩))))
                  Prog.fail
                  (Nat.ble 1 (List.length (Array.toList (Value.cells (at_ (elems v36) (Int.toNat x6)))))))
                Prog.fail
                (((Nat.ble (Nat.succ (Int.toNat x6)) (List.length (elems v36))) && Bool.true) && (hdOk 1 (elems v36))))
              Prog.fail
              (decide ((0 : Int) ≤ x6)))
            Prog.fail
            (isLst v36)))
        (p18_14 f x2 x2o x3 x3o (0 : Int))
        (decide (x6 < (Int.ofNat (List.length (elems v35))))))
      Prog.fail
      (isLst v35)))
    (loadT En 29 x2 (x2o + 2))) := by kernel_rfl
theorem p18_14_eq (f : Nat) (x2 : Nat) (x2o : Nat) (x3 : Nat) (x3o : Nat) (x7 : Int) : p18_14 (f + 1) x2 x2o x3 x3o x7 =
  (callP (fun v40 =>
    (cnd
      (cnd
        (Prog.seg (loadT En 30 x2 (x2o + 3)) fun v41 s42 _ =>
          (cnd
            (cnd
              (cnd
                (cnd
                  (cnd
                    (Prog.seg (loadT En 30 x3 (x3o + 3)) fun v43 s44 _ =>
                      (gdL 32 (writesOf s44) s44 [⟨1, writesOf s42, s42⟩]
                        (cnd
                          (cnd
                            (cnd
                              (cnd
                                (cnd
                                  (Prog.seg (callF En (runP En f) 18 [(Value.agg ⟨((Value.int IntKind.i64 (intOf (at_ (List.take 4 (Array.toList (Value.cells (at_ (elems v41) (Int.toNat x7))))) 0))) :: ((lstV (elems (at_ (List.take 4 (Array.toList (Value.cells (at_ (elems v41) (Int.toNat x7))))) 1))) :: ((lstV (elems (at_ (List.take 4 (Array.toList (Value.cells (at_ (elems v41) (Int.toNat x7))))) 2))) :: ((lstV (elems (at_ (List.take 4 (Array.toList (Value.cells (at_ (elems v41) (Int.toNat x7))))) 3))) :: []))))⟩), (Value.agg ⟨((Value.int IntKind.i64 (intOf (at_ (List.take 4 (Array.toList (Value.cells (at_ (elems v43) (Int.toNat x7))))) 0))) :: ((lstV (elems (at_ (List.take 4 (Array.toList (Value.cells (at_ (elems v43) (Int.toNat x7))))) 1))) :: ((lstV (elems (at_ (List.take 4 (Array.toList (Value.cells (at_ (elems v43) (Int.toNat x7))))) 2))) :: ((lstV (elems (at_ (List.take 4 (Array.toList (Value.cells (at_ (elems v43) (Int.toNat x7))))) 3))) :: []))))⟩)]) fun v45 s46 _ =>
                                    (gdL 1023 (writesOf s46) s46 [⟨6, writesOf s44, s44⟩, ⟨1, writesOf s42, s42⟩]
                                      (cnd
                                        (cnd
                                          (Prog.ret (Value.bool Bool.false))
                                          (p18_14 f x2 x2o x3 x3o (IntKind.wrap IntKind.i64 (x7 + (1 : Int))))
                                          (Bool.not (boolOf v45)))
                                        Prog.fail
                                        (okK Kd.bool v45))))
                                  Prog.fail
                                  (okKs ((Kd.int IntKind.i64) :: (Kd.lst :: (Kd.lst :: (Kd.lst :: [])))) (List.take 4 (Array.toList (Value.cells (at_ (elems v43) (Int.toNat x7)))))))
                                Prog.fail
                                (Nat.ble 4 (List.length (Array.toList (Value.cells (at_ (elems v43) (Int.toNat x7)))))))
                              Prog.fail
                              (((Nat.ble (Nat.succ (Int.toNat x7)) (List.length (elems v43))) && Bool.true) && (hdOk 4 (elems v43))))
                            Prog.fail
                            (decide ((0 : Int) ≤ x7)))
                          Prog.fail
                          (isLst v43))))
                    Prog.fail
                    (okKs ((Kd.int IntKind.i64) :: (Kd.lst :: (Kd.lst :: (Kd.lst :: [])))) (List.take 4 (Array.toList (Value.cells (at_ (elems v41) (Int.toNat x7)))))))
                  Prog.fail
                  (Nat.ble 4 (List.length (Array.toList (Value.cells (at_ (elems v41) (Int.toNat x7)))))))
                Prog.fail
                (((Nat.ble (Nat.succ (Int.toNat x7)) (List.length (elems v41))) && Bool.true) && (hdOk 4 (elems v41))))
              Prog.fail
              (decide ((0 : Int) ≤ x7)))
            Prog.fail
            (isLst v41)))
        (Prog.ret (Value.bool Bool.true))
        (decide (x7 < (Int.ofNat (List.length (elems v40))))))
      Prog.fail
      (isLst v40)))
    (loadT En 30 x2 (x2o + 3))) := by kernel_rfl
theorem f18_eq (f : Nat) (x0_0 : Int) (x0_1 : List Value) (x0_2 : List Value) (x0_3 : List Value) (x1_0 : Int) (x1_1 : List Value) (x1_2 : List Value) (x1_3 : List Value) : callF En (runP En (f + 1)) 18 [(Value.agg ⟨((Value.int IntKind.i64 x0_0) :: ((lstV x0_1) :: ((lstV x0_2) :: ((lstV x0_3) :: []))))⟩), (Value.agg ⟨((Value.int IntKind.i64 x1_0) :: ((lstV x1_1) :: ((lstV x1_2) :: ((lstV x1_3) :: []))))⟩)] =
  (gd Bool.true
    (callP (fun v48 =>
      (cnd
        (gd Bool.true
          (callP (fun v50 =>
            (cnd
              (callP (fun v51 =>
                (cnd
                  (callP (fun v52 =>
                    (cnd
                      (cnd
                        (Prog.ret (Value.bool Bool.false))
                        (callP (fun v53 =>
                          (cnd
                            (callP (fun v54 =>
                              (cnd
                                (cnd
                                  (Prog.ret (Value.bool Bool.false))
                                  (callP (fun v55 =>
                                    (cnd
                                      (callP (fun v56 =>
                                        (cnd
                                          (cnd
                                            (Prog.ret (Value.bool Bool.false))
                                            (callP (fun v57 =>
                                              (cnd
                                                (callP (fun v58 =>
                                                  (cnd
                                                    (cnd
                                                      (Prog.ret (Value.bool Bool.false))
                                                      (p18_4 f (blkOf v48) (offOf v48) (blkOf v50) (offOf v50) (0 : Int))
                                                      (Bool.not (decide ((Int.ofNat (List.length (elems v57))) = (Int.ofNat (List.length (elems v58)))))))
                                                    Prog.fail
                                                    (isLst v58)))
                                                  (loadT En 30 (blkOf v50) ((offOf v50) + 3)))
                                                Prog.fail
                                                (isLst v57)))
                                              (loadT En 30 (blkOf v48) ((offOf v48) + 3)))
                                            (Bool.not (decide ((Int.ofNat (List.length (elems v55))) = (Int.ofNat (List.length (elems v56)))))))
                                          Prog.fail
                                          (isLst v56)))
                                        (loadT En 29 (blkOf v50) ((offOf v50) + 2)))
                                      Prog.fail
                                      (isLst v55)))
                                    (loadT En 29 (blkOf v48) ((offOf v48) + 2)))
                                  (Bool.not (decide ((Int.ofNat (List.length (elems v53))) = (Int.ofNat (List.length (elems v54)))))))
                                Prog.fail
                                (isLst v54)))
                              (loadT En 28 (blkOf v50) ((offOf v50) + 1)))
                            Prog.fail
                            (isLst v53)))
                          (loadT En 28 (blkOf v48) ((offOf v48) + 1)))
                        (Bool.not (decide ((intOf v51) = (intOf v52)))))
                      Prog.fail
                      (okK (Kd.int IntKind.i64) v52)))
                    (loadT En 3 (blkOf v50) ((offOf v50) + 0)))
                  Prog.fail
                  (okK (Kd.int IntKind.i64) v51)))
                (loadT En 3 (blkOf v48) ((offOf v48) + 0)))
              Prog.fail
              (isPt v50)))
            (Prog.newH (Hdr.mk 4 32 Bool.false Bool.true Bool.true 0 Bool.false Bool.false []) ((Value.int IntKind.i64 x1_0) :: ((lstV x1_1) :: ((lstV x1_2) :: ((lstV x1_3) :: [])))) (fun z49 => (Prog.ret (itP z49))))))
        Prog.fail
        (isPt v48)))
      (Prog.newH (Hdr.mk 4 32 Bool.false Bool.true Bool.true 0 Bool.false Bool.false []) ((Value.int IntKind.i64 x0_0) :: ((lstV x0_1) :: ((lstV x0_2) :: ((lstV x0_3) :: [])))) (fun z47 => (Prog.ret (itP z47)))))) := by kernel_rfl
end Go.Proofs.YtmjbmbmnnephjaaGreatDoor
/- What comes of the points of a function: printed by the tool. -/
namespace Go.Proofs.YtmjbmbmnnephjaaGreatDoor
open Go Go.Ev Go.Proofs
set_option maxRecDepth 8000
set_option linter.unusedVariables false
noncomputable def p19_3 (f : Nat) (x3 : Value) (x7 : Value) (x8 : Int) (x9 : Int) : Prog := runP En f 19 (tmL 27 [(3, x3), (7, x7), (8, (Value.int IntKind.i64 x8)), (9, (Value.int IntKind.i64 x9))]) [.code (cL (cI (cI (cR (cL (cR (cR (cB 19)))))))), .code (cR (cI (cI (cR (cL (cR (cR (cB 19)))))))), .inLoop (cI (cI (cR (cL (cR (cR (cB 19))))))), .inBlock 0, .code (cR (cR (cR (cB 19))))] [] none
noncomputable def p19_8 (f : Nat) (x3 : Value) (x6 : ByteArray) (x7 : Value) (x8 : Int) (x9 : Int) : Prog := runP En f 19 (tmL 27 [(3, x3), (6, (Value.string x6)), (7, x7), (8, (Value.int IntKind.i64 x8)), (9, (Value.int IntKind.i64 x9))]) [.code (cR (cR (cR (cI (cL (cR (cR (cI (cI (cR (cL (cR (cR (cB 19)))))))))))))), .inBlock 1, .code (cR (cR (cR (cI (cI (cR (cL (cR (cR (cB 19)))))))))), .inLoop (cI (cI (cR (cL (cR (cR (cB 19))))))), .inBlock 0, .code (cR (cR (cR (cB 19))))] [] none
theorem p19_3_eq (f : Nat) (x3 : Value) (x7 : Value) (x8 : Int) (x9 : Int) : p19_3 (f + 1) x3 x7 x8 x9 =
  (cnd
    (indexAddrK En 23 x7 (Value.int IntKind.i64 x9) fun v22 =>
      (cnd
        (callP (fun v23 =>
          (cnd
            (callP (fun v25 =>
              (cnd
                (callP (fun v26 =>
                  (callP (fun v27 =>
                    (cnd
                      (callP (fun v28 =>
                        (cnd
                          (cnd
                            (Prog.call (callF En (runP En f) 40 [(Value.string (strOf v27))]) fun v29 =>
                              (cnd
                                (p19_8 f x3 (strOf v29) x7 x8 x9)
                                Prog.fail
                                (okK Kd.str v29)))
                            (p19_8 f x3 (strOf v27) x7 x8 x9)
                            (decide ((intOf v28) = (3 : Int))))
                          Prog.fail
                          (okK (Kd.int IntKind.i64) v28)))
                        (loadT En 3 (blkOf v25) ((offOf v25) + 0)))
                      Prog.fail
                      (okK Kd.str v27)))
                    (loadT En 9 (blkOf v25) ((offOf v25) + 3))))
                  (storeT En 34 (blkOf v25) (offOf v25) (Value.agg ⟨((Value.int IntKind.i64 (intOf (at_ (aggOf v23) 0))) :: ((Value.int IntKind.i64 (intOf (at_ (aggOf v23) 1))) :: ((Value.int IntKind.i64 (intOf (at_ (aggOf v23) 2))) :: ((Value.string (strOf (at_ (aggOf v23) 3))) :: ((Value.int IntKind.i64 (intOf (at_ (aggOf v23) 4))) :: ((lstV (elems (at_ (aggOf v23) 5))) :: ((lstV (elems (at_ (aggOf v23) 6))) :: ((lstV (elems (at_ (aggOf v23) 7))) :: []))))))))⟩)))
                Prog.fail
                (isPt v25)))
              (Prog.newH (Hdr.mk 8 34 Bool.false Bool.true Bool.true 0 Bool.false Bool.false []) ((Value.int IntKind.i64 (0 : Int)) :: ((Value.int IntKind.i64 (0 : Int)) :: ((Value.int IntKind.i64 (0 : Int)) :: ((Value.string (mkStr [])) :: ((Value.int IntKind.i64 (0 : Int)) :: ((Value.slice Option.none 0 0) :: ((Value.slice Option.none 0 0) :: ((Value.slice Option.none 0 0) :: [])))))))) (fun z24 => (Prog.ret (itP z24)))))
            Prog.fail
            ((isAggV v23) && (okKs ((Kd.int IntKind.i64) :: ((Kd.int IntKind.i64) :: ((Kd.int IntKind.i64) :: (Kd.str :: ((Kd.int IntKind.i64) :: (Kd.lst :: (Kd.lst :: (Kd.lst :: [])))))))) (aggOf v23)))))
          (loadT En 34 (blkOf v22) (offOf v22)))
        Prog.fail
        (isPt v22)))
    (Prog.call (callF En (runP En f) 41 [x3, (Value.string (mkStr [32]))]) fun v30 =>
      (cnd
        (Prog.ret (Value.string (strOf v30)))
        Prog.fail
        (okK Kd.str v30)))
    (decide (x9 < x8))) := by kernel_rfl
theorem p19_8_eq (f : Nat) (x3 : Value) (x6 : ByteArray) (x7 : Value) (x8 : Int) (x9 : Int) : p19_8 (f + 1) x3 x6 x7 x8 x9 =
  (callP (fun v31 =>
    (p19_3 f v31 x7 x8 (IntKind.wrap IntKind.i64 (x9 + (1 : Int)))))
    (builtinA En Builtin.append (29 :: (29 :: [])) (x3 :: ((xlstV ((Value.string x6) :: [])) :: [])))) := by kernel_rfl
theorem f19_eq (f : Nat) (x0 : Value) : callF En (runP En (f + 1)) 19 [x0] =
  (callP (fun v32 =>
    (cnd
      (p19_3 f (Value.slice Option.none 0 0) x0 (intOf v32) (0 : Int))
      Prog.fail
      (okK (Kd.int IntKind.i64) v32)))
    (builtinA En Builtin.len (23 :: []) (x0 :: []))) := by kernel_rfl
end Go.Proofs.YtmjbmbmnnephjaaGreatDoor
/- What comes of the points of a function: printed by the tool. -/
namespace Go.Proofs.YtmjbmbmnnephjaaGreatDoor
open Go Go.Ev Go.Proofs
set_option maxRecDepth 8000
set_option linter.unusedVariables false
noncomputable def p20_3 (f : Nat) (x0 : List Value) (x3 : Value) (x4 : Int) : Prog := runP En f 20 (tmL 39 [(0, (lstV x0)), (3, x3), (4, (Value.int IntKind.i64 x4))]) [.code (cL (cL (cI (cI (cR (cL (cR (cR (cB 20))))))))), .code (cR (cL (cI (cI (cR (cL (cR (cR (cB 20))))))))), .code (cR (cI (cI (cR (cL (cR (cR (cB 20)))))))), .inLoop (cI (cI (cR (cL (cR (cR (cB 20))))))), .inBlock 0, .code (cR (cR (cR (cB 20))))] [] none
noncomputable def p20_7 (f : Nat) (x0 : List Value) (x3 : Value) (x4 : Int) : Prog := runP En f 20 (tmL 39 [(0, (lstV x0)), (3, x3), (4, (Value.int IntKind.i64 x4))]) [.code (cL (cR (cI (cL (cR (cI (cI (cR (cL (cR (cR (cB 20)))))))))))), .code (cR (cR (cI (cL (cR (cI (cI (cR (cL (cR (cR (cB 20)))))))))))), .inBlock 1, .code (cR (cR (cI (cI (cR (cL (cR (cR (cB 20))))))))), .inLoop (cI (cI (cR (cL (cR (cR (cB 20))))))), .inBlock 0, .code (cR (cR (cR (cB 20))))] [] none
noncomputable def p20_4 (f : Nat) (x0 : List Value) (x3 : Value) (x4 : Int) : Prog := runP En f 20 (tmL 39 [(0, (lstV x0)), (3, x3), (4, (Value.int IntKind.i64 x4))]) [.code (cR (cR (cI (cI (cR (cL (cR (cR (cB 20))))))))), .inLoop (cI (cI (cR (cL (cR (cR (cB 20))))))), .inBlock 0, .code (cR (cR (cR (cB 20))))] [] none
theorem p20_3_eq (f : Nat) (x0 : List Value) (x3 : Value) (x4 : Int) : p20_3 (f + 1) x0 x3 x4 =
  (cnd
    (cnd
      (callP (fun v5 =>
        (p20_7 f x0 v5 x4))
        (builtinA En Builtin.append (65 :: (65 :: [])) (x3 :: ((xlstV ((Value.int IntKind.u8 (32 : Int)) :: [])) :: []))))
      (p20_7 f x0 x3 x4)
      (decide (x4 > (0 : Int))))
    (callP (fun v54 =>
      (Prog.ret v54))
      (convA En 65 9 x3))
    (decide (x4 < (Int.ofNat (List.length x0))))) := by kernel_rfl
theorem p20_7_eq (f : Nat) (x0 : List Value) (x3 : Value) (x4 : Int) : p20_7 (f + 1) x0 x3 x4 =
  (cnd
    (cnd
      (cnd
        (cnd
          (cnd
            (cnd
              (cnd
                (cnd
                  (cnd
                    (cnd
                      (cnd
                        (Prog.call (callF En (runP En f) 42 [(Value.string (strOf (List.headD (List.drop 3 (Array.toList (Value.cells (at_ x0 (Int.toNat x4))))) (Value.tuple ⟨[]⟩))))]) fun v55 =>
                          (cnd
                            (callP (fun v56 =>
                              (p20_4 f x0 v56 x4))
                              (builtinA En Builtin.append (65 :: (9 :: [])) (x3 :: ((Value.string (strOf v55)) :: []))))
                            Prog.fail
                            (okK Kd.str v55)))
                        Prog.fail
                        (okK Kd.str (List.headD (List.drop 3 (Array.toList (Value.cells (at_ x0 (Int.toNat x4))))) (Value.tuple ⟨[]⟩))))
                      Prog.fail
                      (Nat.ble 1 (List.length (List.drop 3 (Array.toList (Value.cells (at_ x0 (Int.toNat x4))))))))
                    Prog.fail
                    (Nat.ble 4 (List.length (Array.toList (Value.cells (at_ x0 (Int.toNat x4)))))))
                  Prog.fail
                  (((Nat.ble (Nat.succ (Int.toNat x4)) (List.length x0)) && Bool.true) && (hdOk 8 x0)))
                Prog.fail
                (decide ((0 : Int) ≤ x4)))
              (cnd
                (cnd
                  (cnd
                    (cnd
                      (cnd
                        (callP (fun v57 =>
                          (p20_4 f x0 v57 x4))
                          (builtinA En Builtin.append (65 :: (9 :: [])) (x3 :: ((Value.string (strOf (List.headD (List.drop 3 (Array.toList (Value.cells (at_ x0 (Int.toNat x4))))) (Value.tuple ⟨[]⟩)))) :: []))))
                        Prog.fail
                        (okK Kd.str (List.headD (List.drop 3 (Array.toList (Value.cells (at_ x0 (Int.toNat x4))))) (Value.tuple ⟨[]⟩))))
                      Prog.fail
                      (Nat.ble 1 (List.length (List.drop 3 (Array.toList (Value.cells (at_ x0 (Int.toNat x4))))))))
                    Prog.fail
                    (Nat.ble 4 (List.length (Array.toList (Value.cells (at_ x0 (Int.toNat x4)))))))
                  Prog.fail
                  (((Nat.ble (Nat.succ (Int.toNat x4)) (List.length x0)) && Bool.true) && (hdOk 8 x0)))
                Prog.fail
                (decide ((0 : Int) ≤ x4)))
              (decide ((intOf (List.headD (Array.toList (Value.cells (at_ x0 (Int.toNat x4)))) (Value.tuple ⟨[]⟩))) = (3 : Int))))
            Prog.fail
            (okK (Kd.int IntKind.i64) (List.headD (Array.toList (Value.cells (at_ x0 (Int.toNat x4)))) (Value.tuple ⟨[]⟩))))
          Prog.fail
          (Nat.ble 1 (List.length (Array.toList (Value.cells (at_ x0 (Int.toNat x4)))))))
        Prog.fail
        (Nat.ble 1 (List.length (Array.toList (Value.cells (at_ x0 (Int.toNat x4)))))))
      Prog.fail
      (((Nat.ble (Nat.succ (Int.toNat x4)) (List.length x0)) && Bool.true) && (hdOk 8 x0)))
    Prog.fail
    (decide ((0 : Int) ≤ x4))) := by kernel_rfl
theorem p20_4_eq (f : Nat) (x0 : List Value) (x3 : Value) (x4 : Int) : p20_4 (f + 1) x0 x3 x4 =
  (p20_3 f x0 x3 (IntKind.wrap IntKind.i64 (x4 + (1 : Int)))) := by kernel_rfl
theorem f20_eq (f : Nat) (x0 : List Value) : callF En (runP En (f + 1)) 20 [(lstV x0)] =
  (p20_3 f x0 (Value.slice Option.none 0 0) (0 : Int)) := by kernel_rfl
end Go.Proofs.YtmjbmbmnnephjaaGreatDoor
/- What comes of the points of a function: printed by the tool. -/
namespace Go.Proofs.YtmjbmbmnnephjaaGreatDoor
open Go Go.Ev Go.Proofs
set_option maxRecDepth 8000
set_option linter.unusedVariables false
noncomputable def p21_2 (f : Nat) (x0 : ByteArray) (x5 : Int) (x6 : Int) : Prog := runP En f 21 (tmL 22 [(0, (Value.string x0)), (5, (Value.int IntKind.i64 x5)), (6, (Value.int IntKind.i64 x6))]) [.code (cL (cI (cI (cR (cL (cR (cB 21))))))), .code (cR (cI (cI (cR (cL (cR (cB 21))))))), .inLoop (cI (cI (cR (cL (cR (cB 21)))))), .inBlock 0, .code (cR (cR (cB 21)))] [] none
theorem p21_2_eq (f : Nat) (x0 : ByteArray) (x5 : Int) (x6 : Int) : p21_2 (f + 1) x0 x5 x6 =
  (cnd
    (cnd
      (cnd
        (Prog.call (callF En (runP En f) 43 [(Value.int IntKind.u8 (Int.ofNat (byteAt x0 (Int.toNat x6))))]) fun v1 =>
          (cnd
            (cnd
              (Prog.ret (Value.bool Bool.false))
              (p21_2 f x0 x5 (IntKind.wrap IntKind.i64 (x6 + (1 : Int))))
              (Bool.not (boolOf v1)))
            Prog.fail
            (okK Kd.bool v1)))
        Prog.fail
        (Nat.ble (Nat.succ (Int.toNat x6)) (List.length (Array.toList (ByteArray.data x0)))))
      Prog.fail
      (decide ((0 : Int) ≤ x6)))
    (cnd
      (cnd
        (Prog.call (callF En (runP En f) 44 [(Value.int IntKind.u8 (Int.ofNat (byteAt x0 0)))]) fun v2 =>
          (cnd
            (Prog.ret (Value.bool (boolOf v2)))
            Prog.fail
            (okK Kd.bool v2)))
        Prog.fail
        (Nat.ble 1 (List.length (Array.toList (ByteArray.data x0)))))
      (Prog.ret (Value.bool Bool.false))
      (Bool.not (beqB (Array.toList (ByteArray.data x0)) [])))
    (decide (x6 < x5))) := by kernel_rfl
theorem f21_eq (f : Nat) (x0 : ByteArray) : callF En (runP En (f + 1)) 21 [(Value.string x0)] =
  (p21_2 f x0 (Int.ofNat (List.length (Array.toList (ByteArray.data x0)))) (0 : Int)) := by kernel_rfl
end Go.Proofs.YtmjbmbmnnephjaaGreatDoor
/- What comes of the points of a function: printed by the tool. -/
namespace Go.Proofs.YtmjbmbmnnephjaaGreatDoor
open Go Go.Ev Go.Proofs
set_option maxRecDepth 8000
set_option linter.unusedVariables false
noncomputable def p22_4 (f : Nat) (x0 : ByteArray) (x3 : Int) : Prog := runP En f 22 (tmL 23 [(0, (Value.string x0)), (3, (Value.int IntKind.i64 x3))]) [.code (cL (cL (cI (cI (cR (cL (cR (cR (cB 22))))))))), .code (cR (cL (cI (cI (cR (cL (cR (cR (cB 22))))))))), .code (cR (cI (cI (cR (cL (cR (cR (cB 22)))))))), .inLoop (cI (cI (cR (cL (cR (cR (cB 22))))))), .inBlock 0, .code (cR (cR (cR (cB 22))))] [] none
theorem p22_4_eq (f : Nat) (x0 : ByteArray) (x3 : Int) : p22_4 (f + 1) x0 x3 =
  (cnd
    (cnd
      (cnd
        (Prog.call (callF En (runP En f) 46 [(Value.int IntKind.u8 (Int.ofNat (byteAt x0 (Int.toNat x3))))]) fun v2 =>
          (cnd
            (cnd
              (Prog.ret (Value.bool Bool.false))
              (p22_4 f x0 (IntKind.wrap IntKind.i64 (x3 + (1 : Int))))
              (Bool.not (boolOf v2)))
            Prog.fail
            (okK Kd.bool v2)))
        Prog.fail
        (Nat.ble (Nat.succ (Int.toNat x3)) (List.length (Array.toList (ByteArray.data x0)))))
      Prog.fail
      (decide ((0 : Int) ≤ x3)))
    (Prog.ret (Value.bool Bool.true))
    (decide (x3 < (Int.ofNat (List.length (Array.toList (ByteArray.data x0))))))) := by kernel_rfl
theorem f22_eq (f : Nat) (x0 : ByteArray) : callF En (runP En (f + 1)) 22 [(Value.string x0)] =
  (cnd
    (Prog.ret (Value.bool Bool.false))
    (cnd
      (Prog.call (callF En (runP En f) 45 [(Value.int IntKind.u8 (Int.ofNat (byteAt x0 0)))]) fun v3 =>
        (cnd
          (cnd
            (Prog.ret (Value.bool Bool.false))
            (p22_4 f x0 (0 : Int))
            (Bool.not (boolOf v3)))
          Prog.fail
          (okK Kd.bool v3)))
      Prog.fail
      (Nat.ble 1 (List.length (Array.toList (ByteArray.data x0)))))
    (beqB (Array.toList (ByteArray.data x0)) [])) := by kernel_rfl
end Go.Proofs.YtmjbmbmnnephjaaGreatDoor
/- What comes of the points of a function: printed by the tool. -/
namespace Go.Proofs.YtmjbmbmnnephjaaGreatDoor
open Go Go.Ev Go.Proofs
set_option maxRecDepth 8000
set_option linter.unusedVariables false
noncomputable def p23_4 (f : Nat) (x0 : List Value) (x1 : List Value) (x2 : Bool) (x7 : Int) : Prog := runP En f 23 (tmL 86 [(0, (lstV x0)), (1, (lstV x1)), (2, (Value.bool x2)), (7, (Value.int IntKind.i64 x7))]) [.code (cL (cL (cI (cI (cR (cL (cR (cR (cB 23))))))))), .code (cR (cL (cI (cI (cR (cL (cR (cR (cB 23))))))))), .code (cR (cI (cI (cR (cL (cR (cR (cB 23)))))))), .inLoop (cI (cI (cR (cL (cR (cR (cB 23))))))), .inBlock 0, .code (cR (cR (cR (cB 23))))] [] none
theorem p23_4_eq (f : Nat) (x0 : List Value) (x1 : List Value) (x2 : Bool) (x7 : Int) : p23_4 (f + 1) x0 x1 x2 x7 =
  (cnd
    (cnd
      (cnd
        (cnd
          (cnd
            (cnd
              (cnd
                (cnd
                  (cnd
                    (cnd
                      (cnd
                        (cnd
                          (Prog.ret (Value.bool Bool.false))
                          (cnd
                            (cnd
                              (cnd
                                (cnd
                                  (cnd
                                    (cnd
                                      (cnd
                                        (cnd
                                          (cnd
                                            (cnd
                                              (cnd
                                                (Prog.ret (Value.bool Bool.false))
                                                (cnd
                                                  (cnd
                                                    (cnd
                                                      (cnd
                                                        (cnd
                                                          (cnd
                                                            (cnd
                                                              (cnd
                                                                (cnd
                                                                  (cnd
                                                                    (Prog.seg (callF En (runP En f) 18 [(Value.agg ⟨((Value.int IntKind.i64 (intOf (at_ (List.take 4 (List.drop 4 (Array.toList (Value.cells (at_ x0 (Int.toNat x7)))))) 0))) :: ((lstV (elems (at_ (List.take 4 (List.drop 4 (Array.toList (Value.cells (at_ x0 (Int.toNat x7)))))) 1))) :: ((lstV (elems (at_ (List.take 4 (List.drop 4 (Array.toList (Value.cells (at_ x0 (Int.toNat x7)))))) 2))) :: ((lstV (elems (at_ (List.take 4 (List.drop 4 (Array.toList (Value.cells (at_ x0 (Int.toNat x7)))))) 3))) :: []))))⟩), (Value.agg ⟨((Value.int IntKind.i64 (intOf (at_ (List.take 4 (List.drop 4 (Array.toList (Value.cells (at_ x1 (Int.toNat x7)))))) 0))) :: ((lstV (elems (at_ (List.take 4 (List.drop 4 (Array.toList (Value.cells (at_ x1 (Int.toNat x7)))))) 1))) :: ((lstV (elems (at_ (List.take 4 (List.drop 4 (Array.toList (Value.cells (at_ x1 (Int.toNat x7)))))) 2))) :: ((lstV (elems (at_ (List.take 4 (List.drop 4 (Array.toList (Value.cells (at_ x1 (Int.toNat x7)))))) 3))) :: []))))⟩)]) fun v1 s2 _ =>
                                                                      (cnd
                                                                        (cnd
                                                                          (Prog.ret (Value.bool Bool.false))
                                                                          (cnd
                                                                            (cnd
                                                                              (cnd
                                                                                (cnd
                                                                                  (cnd
                                                                                    (cnd
                                                                                      (cnd
                                                                                        (cnd
                                                                                          (cnd
                                                                                            (cnd
                                                                                              (cnd
                                                                                                (cnd
                                                                                                  (Prog.ret (Value.bool Bool.false))
                                                                                                  (cnd
                                                                                                    (cnd
                                                                                                      (cnd
                                                                                                        (cnd
                                                                                                          (cnd
                                                                                                            (cnd
                                                                                                              (cnd
                                                                                                                (cnd
                                                                                                                  (cnd
                                                                                                                    (cnd
                                                                                                                      (cnd
                                                                                                                        (Prog.ret (Value.bool Bool.false))
                                                                                                                        (p23_4 f x0 x1 x2 (IntKind.wrap IntKind.i64 (x7 + (1 : Int))))
                                                                                                                        (Bool.not (decide ((intOf (List.headD (List.drop 2 (Array.toList (Value.cells (at_ x0 (Int.toNat x7))))) (Value.tuple ⟨[]⟩))) = (intOf (List.headD (List.drop 2 (Array.toList (Value.cells (at_ x1 (Int.toNat x7))))) (Value.tuple ⟨[]⟩)))))))
                                                                                                                      Prog.fail
                                                                                                                      (okK (Kd.int IntKind.i64) (List.headD (List.drop 2 (Array.toList (Value.cells (at_ x1 (Int.toNat x7))))) (Value.tuple ⟨[]⟩))))
                                                                                                                    Prog.fail
                                                                                                                    (Nat.ble 1 (List.length (List.drop 2 (Array.toList (Value.cells (at_ x1 (Int.toNat x7))))))))
                                                                                                                  Prog.fail
                                                                                                                  (Nat.ble 3 (List.length (Array.toList (Value.cells (at_ x1 (Int.toNat x7)))))))
                                                                                                                Prog.fail
                                                                                                                (((Nat.ble (Nat.succ (Int.toNat x7)) (List.length x1)) && Bool.true) && (hdOk 8 x1)))
                                                                                                              Prog.fail
                                                                                                              (decide ((0 : Int) ≤ x7)))
                                                                                                            Prog.fail
                                                                                                            (okK (Kd.int IntKind.i64) (List.headD (List.drop 2 (Array.toList (Value.cells (at_ x0 (Int.toNat x7))))) (Value.tuple ⟨[]⟩))))
                                                                                                          Prog.fail
                                                                                                          (Nat.ble 1 (List.length (List.drop 2 (Array.toList (Value.cells (at_ x0 (Int.toNat x7))))))))
                                                                                                        Prog.fail
                                                                                                        (Nat.ble 3 (List.length (Array.toList (Value.cells (at_ x0 (Int.toNat x7)))))))
                                                                                                      Prog.fail
                                                                                                      (((Nat.ble (Nat.succ (Int.toNat x7)) (List.length x0)) && Bool.true) && (hdOk 8 x0)))
                                                                                                    Prog.fail
                                                                                                    (decide ((0 : Int) ≤ x7)))
                                                                                                  (Bool.not (decide ((intOf (List.headD (List.drop 1 (Array.toList (Value.cells (at_ x0 (Int.toNat x7))))) (Value.tuple ⟨[]⟩))) = (intOf (List.headD (List.drop 1 (Array.toList (Value.cells (at_ x1 (Int.toNat x7))))) (Value.tuple ⟨[]⟩)))))))
                                                                                                Prog.fail
                                                                                                (okK (Kd.int IntKind.i64) (List.headD (List.drop 1 (Array.toList (Value.cells (at_ x1 (Int.toNat x7))))) (Value.tuple ⟨[]⟩))))
                                                                                              Prog.fail
                                                                                              (Nat.ble 1 (List.length (List.drop 1 (Array.toList (Value.cells (at_ x1 (Int.toNat x7))))))))
                                                                                            Prog.fail
                                                                                            (Nat.ble 2 (List.length (Array.toList (Value.cells (at_ x1 (Int.toNat x7)))))))
                                                                                          Prog.fail
                                                                                          (((Nat.ble (Nat.succ (Int.toNat x7)) (List.length x1)) && Bool.true) && (hdOk 8 x1)))
                                                                                        Prog.fail
                                                                                        (decide ((0 : Int) ≤ x7)))
                                                                                      Prog.fail
                                                                                      (okK (Kd.int IntKind.i64) (List.headD (List.drop 1 (Array.toList (Value.cells (at_ x0 (Int.toNat x7))))) (Value.tuple ⟨[]⟩))))
                                                                                    Prog.fail
                                                                                    (Nat.ble 1 (List.length (List.drop 1 (Array.toList (Value.cells (at_ x0 (Int.toNat x7))))))))
                                                                                  Prog.fail
                                                                                  (Nat.ble 2 (List.length (Array.toList (Value.cells (at_ x0 (Int.toNat x7)))))))
                                                                                Prog.fail
                                                                                (((Nat.ble (Nat.succ (Int.toNat x7)) (List.length x0)) && Bool.true) && (hdOk 8 x0)))
                                                                              Prog.fail
                                                                              (decide ((0 : Int) ≤ x7)))
                                                                            (p23_4 f x0 x1 x2 (IntKind.wrap IntKind.i64 (x7 + (1 : Int))))
                                                                            x2)
                                                                          (Bool.not (boolOf v1)))
                                                                        Prog.fail
                                                                        (okK Kd.bool v1)))
                                                                    Prog.fail
                                                                    (okKs ((Kd.int IntKind.i64) :: (Kd.lst :: (Kd.lst :: (Kd.lst :: [])))) (List.take 4 (List.drop 4 (Array.toList (Value.cells (at_ x1 (Int.toNat x7))))))))
                                                                  Prog.fail
                                                                  (Nat.ble 4 (List.length (List.drop 4 (Array.toList (Value.cells (at_ x1 (Int.toNat x7))))))))
                                                                Prog.fail
                                                                (Nat.ble 5 (List.length (Array.toList (Value.cells (at_ x1 (Int.toNat x7)))))))
                                                              Prog.fail
                                                              (((Nat.ble (Nat.succ (Int.toNat x7)) (List.length x1)) && Bool.true) && (hdOk 8 x1)))
                                                            Prog.fail
                                                            (decide ((0 : Int) ≤ x7)))
                                                          Prog.fail
                                                          (okKs ((Kd.int IntKind.i64) :: (Kd.lst :: (Kd.lst :: (Kd.lst :: [])))) (List.take 4 (List.drop 4 (Array.toList (Value.cells (at_ x0 (Int.toNat x7))))))))
                                                        Prog.fail
                                                        (Nat.ble 4 (List.length (List.drop 4 (Array.toList (Value.cells (at_ x0 (Int.toNat x7))))))))
                                                      Prog.fail
                                                      (Nat.ble 5 (List.length (Array.toList (Value.cells (at_ x0 (Int.toNat x7)))))))
                                                    Prog.fail
                                                    (((Nat.ble (Nat.succ (Int.toNat x7)) (List.length x0)) && Bool.true) && (hdOk 8 x0)))
                                                  Prog.fail
                                                  (decide ((0 : Int) ≤ x7)))
                                                (Bool.not (beqB (Array.toList (ByteArray.data (strOf (List.headD (List.drop 3 (Array.toList (Value.cells (at_ x0 (Int.toNat x7))))) (Value.tuple ⟨[]⟩))))) (Array.toList (ByteArray.data (strOf (List.headD (List.drop 3 (Array.toList (Value.cells (at_ x1 (Int.toNat x7))))) (Value.tuple ⟨[]⟩))))))))
                                              Prog.fail
                                              (okK Kd.str (List.headD (List.drop 3 (Array.toList (Value.cells (at_ x1 (Int.toNat x7))))) (Value.tuple ⟨[]⟩))))
                                            Prog.fail
                                            (Nat.ble 1 (List.length (List.drop 3 (Array.toList (Value.cells (at_ x1 (Int.toNat x7))))))))
                                          Prog.fail
                                          (Nat.ble 4 (List.length (Array.toList (Value.cells (at_ x1 (Int.toNat x7)))))))
                                        Prog.fail
                                        (((Nat.ble (Nat.succ (Int.toNat x7)) (List.length x1)) && Bool.true) && (hdOk 8 x1)))
                                      Prog.fail
                                      (decide ((0 : Int) ≤ x7)))
                                    Prog.fail
                                    (okK Kd.str (List.headD (List.drop 3 (Array.toList (Value.cells (at_ x0 (Int.toNat x7))))) (Value.tuple ⟨[]⟩))))
                                  Prog.fail
                                  (Nat.ble 1 (List.length (List.drop 3 (Array.toList (Value.cells (at_ x0 (Int.toNat x7))))))))
                                Prog.fail
                                (Nat.ble 4 (List.length (Array.toList (Value.cells (at_ x0 (Int.toNat x7)))))))
                              Prog.fail
                              (((Nat.ble (Nat.succ (Int.toNat x7)) (List.length x0)) && Bool.true) && (hdOk 8 x0)))
                            Prog.fail
                            (decide ((0 : Int) ≤ x7)))
                          (Bool.not (decide ((intOf (List.headD (Array.toList (Value.cells (at_ x0 (Int.toNat x7)))) (Value.tuple ⟨[]⟩))) = (intOf (List.headD (Array.toList (Value.cells (at_ x1 (Int.toNat x7)))) (Value.tuple ⟨[]⟩)))))))
                        Prog.fail
                        (okK (Kd.int IntKind.i64) (List.headD (Array.toList (Value.cells (at_ x1 (Int.toNat x7)))) (Value.tuple ⟨[]⟩))))
                      Prog.fail
                      (Nat.ble 1 (List.length (Array.toList (Value.cells (at_ x1 (Int.toNat x7)))))))
                    Prog.fail
                    (Nat.ble 1 (List.length (Array.toList (Value.cells (at_ x1 (Int.toNat x7)))))))
                  Prog.fail
                  (((Nat.ble (Nat.succ (Int.toNat x7)) (List.length x1)) && Bool.true) && (hdOk 8 x1)))
                Prog.fail
                (decide ((0 : Int) ≤ x7)))
              Prog.fail
              (okK (Kd.int IntKind.i64) (List.headD (Array.toList (Value.cells (at_ x0 (Int.toNat x7)))) (Value.tuple ⟨[]⟩))))
            Prog.fail
            (Nat.ble 1 (List.length (Array.toList (Value.cells (at_ x0 (Int.toNat x7)))))))
          Prog.fail
          (Nat.ble 1 (List.length (Array.toList (Value.cells (at_ x0 (Int.toNat x7)))))))
        Prog.fail
        (((Nat.ble (Nat.succ (Int.toNat x7)) (List.length x0)) && Bool.true) && (hdOk 8 x0)))
      Prog.fail
      (decide ((0 : Int) ≤ x7)))
    (Prog.ret (Value.bool Bool.true))
    (decide (x7 < (Int.ofNat (List.length x0))))) := by kernel_rfl
theorem f23_eq (f : Nat) (x0 : List Value) (x1 : List Value) (x2 : Bool) : callF En (runP En (f + 1)) 23 [(lstV x0), (lstV x1), (Value.bool x2)] =
  (cnd
    (Prog.ret (Value.bool Bool.false))
    (p23_4 f x0 x1 x2 (0 : Int))
    (Bool.not (decide ((Int.ofNat (List.length x0)) = (Int.ofNat (List.length x1)))))) := by kernel_rfl
end Go.Proofs.YtmjbmbmnnephjaaGreatDoor
/- What comes of the points of a function: printed by the tool. -/
namespace Go.Proofs.YtmjbmbmnnephjaaGreatDoor
open Go Go.Ev Go.Proofs
set_option maxRecDepth 8000
set_option linter.unusedVariables false
noncomputable def p40_3 (f : Nat) (x0 : ByteArray) (x3 : Value) (x8 : Int) (x9 : Int) : Prog := runP En f 40 (tmL 47 [(0, (Value.string x0)), (3, x3), (8, (Value.int IntKind.i64 x8)), (9, (Value.int IntKind.i64 x9))]) [.code (cL (cI (cI (cR (cL (cR (cR (cB 40)))))))), .code (cR (cI (cI (cR (cL (cR (cR (cB 40)))))))), .inLoop (cI (cI (cR (cL (cR (cR (cB 40))))))), .inBlock 0, .code (cR (cR (cR (cB 40))))] [] none
noncomputable def p40_9 (f : Nat) (x0 : ByteArray) (x3 : Value) (x8 : Int) (x9 : Int) : Prog := runP En f 40 (tmL 47 [(0, (Value.string x0)), (3, x3), (8, (Value.int IntKind.i64 x8)), (9, (Value.int IntKind.i64 x9))]) [.code (cR (cR (cR (cI (cI (cR (cL (cR (cR (cB 40)))))))))), .inLoop (cI (cI (cR (cL (cR (cR (cB 40))))))), .inBlock 0, .code (cR (cR (cR (cB 40))))] [] none
theorem p40_3_eq (f : Nat) (x0 : ByteArray) (x3 : Value) (x8 : Int) (x9 : Int) : p40_3 (f + 1) x0 x3 x8 x9 =
  (cnd
    (cnd
      (cnd
        (cnd
          (cnd
            (cnd
              (cnd
                (Prog.seg (buildSliceA En 65 4 ((Prod.mk 0 (Value.int IntKind.u8 (92 : Int))) :: ((Prod.mk 1 (Value.int IntKind.u8 (120 : Int))) :: ((Prod.mk 2 (Value.int IntKind.u8 (Int.ofNat (byteAt (mkStr [48, 49, 50, 51, 52, 53, 54, 55, 56, 57, 97, 98, 99, 100, 101, 102]) (Int.toNat (IntKind.wrap IntKind.u8 (Int.ofNat (Nat.div (byteAt x0 (Int.toNat x9)) 16)))))))) :: ((Prod.mk 3 (Value.int IntKind.u8 (Int.ofNat (byteAt (mkStr [48, 49, 50, 51, 52, 53, 54, 55, 56, 57, 97, 98, 99, 100, 101, 102]) (Nat.mod (byteAt x0 (Int.toNat x9)) 16))))) :: []))))) fun v68 s69 _ =>
                  (Prog.seg (builtinA En Builtin.append (65 :: (65 :: [])) (x3 :: (v68 :: []))) fun v70 s71 _ =>
                    (gdL 255 (writesOf s71) s71 [⟨7, writesOf s69, s69⟩]
                      (p40_9 f x0 v70 x8 x9))))
                Prog.fail
                (Nat.ble (Nat.succ (Nat.mod (byteAt x0 (Int.toNat x9)) 16)) 16))
              Prog.fail
              (Nat.ble (Nat.succ (Int.toNat (IntKind.wrap IntKind.u8 (Int.ofNat (Nat.div (byteAt x0 (Int.toNat x9)) 16))))) 16))
            Prog.fail
            (decide ((0 : Int) ≤ (IntKind.wrap IntKind.u8 (Int.ofNat (Nat.div (byteAt x0 (Int.toNat x9)) 16))))))
          (cnd
            (cnd
              (cnd
                (cnd
                  (Prog.seg (buildSliceA En 65 4 ((Prod.mk 0 (Value.int IntKind.u8 (92 : Int))) :: ((Prod.mk 1 (Value.int IntKind.u8 (120 : Int))) :: ((Prod.mk 2 (Value.int IntKind.u8 (Int.ofNat (byteAt (mkStr [48, 49, 50, 51, 52, 53, 54, 55, 56, 57, 97, 98, 99, 100, 101, 102]) (Int.toNat (IntKind.wrap IntKind.u8 (Int.ofNat (Nat.div (byteAt x0 (Int.toNat x9)) 16)))))))) :: ((Prod.mk 3 (Value.int IntKind.u8 (Int.ofNat (byteAt (mkStr [48, 49, 50, 51, 52, 53, 54, 55, 56, 57, 97, 98, 99, 100, 101, 102]) (Nat.mod (byteAt x0 (Int.toNat x9)) 16))))) :: []))))) fun v72 s73 _ =>
                    (Prog.seg (builtinA En Builtin.append (65 :: (65 :: [])) (x3 :: (v72 :: []))) fun v74 s75 _ =>
                      (gdL 255 (writesOf s75) s75 [⟨7, writesOf s73, s73⟩]
                        (p40_9 f x0 v74 x8 x9))))
                  Prog.fail
                  (Nat.ble (Nat.succ (Nat.mod (byteAt x0 (Int.toNat x9)) 16)) 16))
                Prog.fail
                (Nat.ble (Nat.succ (Int.toNat (IntKind.wrap IntKind.u8 (Int.ofNat (Nat.div (byteAt x0 (Int.toNat x9)) 16))))) 16))
              Prog.fail
              (decide ((0 : Int) ≤ (IntKind.wrap IntKind.u8 (Int.ofNat (Nat.div (byteAt x0 (Int.toNat x9)) 16))))))
            (cnd
              (cnd
                (cnd
                  (cnd
                    (Prog.seg (buildSliceA En 65 4 ((Prod.mk 0 (Value.int IntKind.u8 (92 : Int))) :: ((Prod.mk 1 (Value.int IntKind.u8 (120 : Int))) :: ((Prod.mk 2 (Value.int IntKind.u8 (Int.ofNat (byteAt (mkStr [48, 49, 50, 51, 52, 53, 54, 55, 56, 57, 97, 98, 99, 100, 101, 102]) (Int.toNat (IntKind.wrap IntKind.u8 (Int.ofNat (Nat.div (byteAt x0 (Int.toNat x9)) 16)))))))) :: ((Prod.mk 3 (Value.int IntKind.u8 (Int.ofNat (byteAt (mkStr [48, 49, 50, 51, 52, 53, 54, 55, 56, 57, 97, 98, 99, 100, 101, 102]) (Nat.mod (byteAt x0 (Int.toNat x9)) 16))))) :: []))))) fun v76 s77 _ =>
                      (Prog.seg (builtinA En Builtin.append (65 :: (65 :: [])) (x3 :: (v76 :: []))) fun v78 s79 _ =>
                        (gdL 255 (writesOf s79) s79 [⟨7, writesOf s77, s77⟩]
                          (p40_9 f x0 v78 x8 x9))))
                    Prog.fail
                    (Nat.ble (Nat.succ (Nat.mod (byteAt x0 (Int.toNat x9)) 16)) 16))
                  Prog.fail
                  (Nat.ble (Nat.succ (Int.toNat (IntKind.wrap IntKind.u8 (Int.ofNat (Nat.div (byteAt x0 (Int.toNat x9)) 16))))) 16))
                Prog.fail
                (decide ((0 : Int) ≤ (IntKind.wrap IntKind.u8 (Int.ofNat (Nat.div (byteAt x0 (Int.toNat x9)) 16))))))
              (cnd
                (cnd
                  (cnd
                    (cnd
                      (Prog.seg (buildSliceA En 65 4 ((Prod.mk 0 (Value.int IntKind.u8 (92 : Int))) :: ((Prod.mk 1 (Value.int IntKind.u8 (120 : Int))) :: ((Prod.mk 2 (Value.int IntKind.u8 (Int.ofNat (byteAt (mkStr [48, 49, 50, 51, 52, 53, 54, 55, 56, 57, 97, 98, 99, 100, 101, 102]) (Int.toNat (IntKind.wrap IntKind.u8 (Int.ofNat (Nat.div (byteAt x0 (Int.toNat x9)) 16)))))))) :: ((Prod.mk 3 (Value.int IntKind.u8 (Int.ofNat (byteAt (mkStr [48, 49, 50, 51, 52, 53, 54, 55, 56, 57, 97, 98, 99, 100, 101, 102]) (Nat.mod (byteAt x0 (Int.toNat x9)) 16))))) :: []))))) fun v80 s81 _ =>
                        (Prog.seg (builtinA En Builtin.append (65 :: (65 :: [])) (x3 :: (v80 :: []))) fun v82 s83 _ =>
                          (gdL 255 (writesOf s83) s83 [⟨7, writesOf s81, s81⟩]
                            (p40_9 f x0 v82 x8 x9))))
                      Prog.fail
                      (Nat.ble (Nat.succ (Nat.mod (byteAt x0 (Int.toNat x9)) 16)) 16))
                    Prog.fail
                    (Nat.ble (Nat.succ (Int.toNat (IntKind.wrap IntKind.u8 (Int.ofNat (Nat.div (byteAt x0 (Int.toNat x9)) 16))))) 16))
                  Prog.fail
                  (decide ((0 : Int) ≤ (IntKind.wrap IntKind.u8 (Int.ofNat (Nat.div (byteAt x0 (Int.toNat x9)) 16))))))
                (callP (fun v84 =>
                  (p40_9 f x0 v84 x8 x9))
                  (builtinA En Builtin.append (65 :: (65 :: [])) (x3 :: ((xlstV ((Value.int IntKind.u8 (Int.ofNat (byteAt x0 (Int.toNat x9)))) :: [])) :: []))))
                (decide ((Int.ofNat (byteAt x0 (Int.toNat x9))) = (92 : Int))))
              (decide ((Int.ofNat (byteAt x0 (Int.toNat x9))) = (34 : Int))))
            (decide ((Int.ofNat (byteAt x0 (Int.toNat x9))) > (126 : Int))))
          (decide ((Int.ofNat (byteAt x0 (Int.toNat x9))) < (32 : Int))))
        Prog.fail
        (Nat.ble (Nat.succ (Int.toNat x9)) (List.length (Array.toList (ByteArray.data x0)))))
      Prog.fail
      (decide ((0 : Int) ≤ x9)))
    (callP (fun v85 =>
      (callP (fun v134 =>
        (Prog.ret v134))
        (convA En 65 9 v85)))
      (builtinA En Builtin.append (65 :: (65 :: [])) (x3 :: ((xlstV ((Value.int IntKind.u8 (34 : Int)) :: [])) :: []))))
    (decide (x9 < x8))) := by kernel_rfl
theorem p40_9_eq (f : Nat) (x0 : ByteArray) (x3 : Value) (x8 : Int) (x9 : Int) : p40_9 (f + 1) x0 x3 x8 x9 =
  (p40_3 f x0 x3 x8 (IntKind.wrap IntKind.i64 (x9 + (1 : Int)))) := by kernel_rfl
theorem f40_eq (f : Nat) (x0 : ByteArray) : callF En (runP En (f + 1)) 40 [(Value.string x0)] =
  (p40_3 f x0 (xlstV ((Value.int IntKind.u8 (34 : Int)) :: [])) (Int.ofNat (List.length (Array.toList (ByteArray.data x0)))) (0 : Int)) := by kernel_rfl
end Go.Proofs.YtmjbmbmnnephjaaGreatDoor
/- What comes of the points of a function: printed by the tool. -/
namespace Go.Proofs.YtmjbmbmnnephjaaGreatDoor
open Go Go.Ev Go.Proofs
set_option maxRecDepth 8000
set_option linter.unusedVariables false
noncomputable def p41_10 (f : Nat) (x0 : List Value) (x1 : ByteArray) (x5 : Int) : Prog := runP En f 41 (tmL 75 [(0, (lstV x0)), (1, (Value.string x1)), (5, (Value.int IntKind.i64 x5))]) [.code (cR (cL (cR (cL (cR (cR (cR (cB 41)))))))), .code (cR (cR (cR (cR (cB 41)))))] [] none
noncomputable def p41_11 (f : Nat) (x0 : List Value) (x1 : ByteArray) (x5 : Int) : Prog := runP En f 41 (tmL 75 [(0, (lstV x0)), (1, (Value.string x1)), (5, (Value.int IntKind.i64 x5))]) [.code (cL (cL (cR (cR (cR (cR (cB 41))))))), .code (cR (cL (cR (cR (cR (cR (cB 41))))))), .code (cR (cR (cR (cR (cR (cB 41))))))] [] none
noncomputable def p41_12 (f : Nat) (x0 : List Value) (x1 : ByteArray) (x5 : Int) (x39 : List Value) (x40 : Int) (x41 : Int) : Prog := runP En f 41 (tmL 75 [(0, (lstV x0)), (1, (Value.string x1)), (5, (Value.int IntKind.i64 x5)), (39, (lstV x39)), (40, (Value.int IntKind.i64 x40)), (41, (Value.int IntKind.i64 x41))]) [.code (cL (cI (cI (cR (cL (cR (cR (cR (cR (cB 41)))))))))), .code (cR (cI (cI (cR (cL (cR (cR (cR (cR (cB 41)))))))))), .inLoop (cI (cI (cR (cL (cR (cR (cR (cR (cB 41))))))))), .inBlock 1, .code (cR (cR (cR (cR (cR (cB 41))))))] [] none
noncomputable def p41_16 (f : Nat) (x0 : List Value) (x1 : ByteArray) (x5 : Int) (x7 : ByteArray) (x39 : List Value) (x40 : Int) (x41 : Int) : Prog := runP En f 41 (tmL 75 [(0, (lstV x0)), (1, (Value.string x1)), (5, (Value.int IntKind.i64 x5)), (7, (Value.string x7)), (39, (lstV x39)), (40, (Value.int IntKind.i64 x40)), (41, (Value.int IntKind.i64 x41))]) [.code (cR (cR (cI (cL (cR (cR (cI (cI (cR (cL (cR (cR (cR (cR (cB 41))))))))))))))), .inBlock 2, .code (cR (cR (cR (cI (cI (cR (cL (cR (cR (cR (cR (cB 41)))))))))))), .inLoop (cI (cI (cR (cL (cR (cR (cR (cR (cB 41))))))))), .inBlock 1, .code (cR (cR (cR (cR (cR (cB 41))))))] [] none
noncomputable def p41_22 (f : Nat) (x1 : ByteArray) (x8 : Nat) (x8o : Nat) (x63 : List Value) (x64 : Int) (x65 : Int) : Prog := runP En f 41 (tmL 75 [(1, (Value.string x1)), (8, (Value.pointer (Option.some (Addr.mk x8 x8o Option.none)))), (63, (lstV x63)), (64, (Value.int IntKind.i64 x64)), (65, (Value.int IntKind.i64 x65))]) [.code (cL (cI (cI (cR (cL (cR (cR (cR (cR (cR (cR (cR (cR (cB 41)))))))))))))), .code (cR (cI (cI (cR (cL (cR (cR (cR (cR (cR (cR (cR (cR (cB 41)))))))))))))), .inLoop (cI (cI (cR (cL (cR (cR (cR (cR (cR (cR (cR (cR (cB 41))))))))))))), .inBlock 3, .code (cR (cR (cR (cR (cR (cR (cR (cR (cR (cB 41))))))))))] [] none
theorem p41_10_eq (f : Nat) (x0 : List Value) (x1 : ByteArray) (x5 : Int) : p41_10 (f + 1) x0 x1 x5 =
  (p41_11 f x0 x1 (IntKind.wrap IntKind.i64 (x5 + (IntKind.wrap IntKind.i64 ((Int.ofNat (List.length (Array.toList (ByteArray.data x1)))) * (IntKind.wrap IntKind.i64 (Int.subNatNat (List.length x0) 1))))))) := by kernel_rfl
theorem p41_11_eq (f : Nat) (x0 : List Value) (x1 : ByteArray) (x5 : Int) : p41_11 (f + 1) x0 x1 x5 =
  (p41_12 f x0 x1 x5 x0 (Int.ofNat (List.length x0)) (0 : Int)) := by kernel_rfl
theorem p41_12_eq (f : Nat) (x0 : List Value) (x1 : ByteArray) (x5 : Int) (x39 : List Value) (x40 : Int) (x41 : Int) : p41_12 (f + 1) x0 x1 x5 x39 x40 x41 =
  (cnd
    (cnd
      (cnd
        (cnd
          (cnd
            (cnd
              Prog.fail
              (p41_16 f x0 x1 x5 (strOf (List.headD (Array.toList (Value.cells (at_ x39 (Int.toNat x41)))) (Value.tuple ⟨[]⟩))) x39 x40 x41)
              (decide ((Int.ofNat (List.length (Array.toList (ByteArray.data (strOf (List.headD (Array.toList (Value.cells (at_ x39 (Int.toNat x41)))) (Value.tuple ⟨[]⟩))))))) > (IntKind.wrap IntKind.i64 ((9223372036854775807 : Int) + (Int.neg x5))))))
            Prog.fail
            (okK Kd.str (List.headD (Array.toList (Value.cells (at_ x39 (Int.toNat x41)))) (Value.tuple ⟨[]⟩))))
          Prog.fail
          (Nat.ble 1 (List.length (Array.toList (Value.cells (at_ x39 (Int.toNat x41)))))))
        Prog.fail
        (((Nat.ble (Nat.succ (Int.toNat x41)) (List.length x39)) && Bool.true) && (hdOk 1 x39)))
      Prog.fail
      (decide ((0 : Int) ≤ x41)))
    (callP (fun v9 =>
      (cnd
        (Prog.call (callF En (runP En f) 77 [(Value.pointer (Option.some (Addr.mk (blkOf v9) (offOf v9) Option.none))), (Value.int IntKind.i64 x5)]) fun v10 =>
          (cnd
            (cnd
              (cnd
                (cnd
                  (Prog.call (callF En (runP En f) 78 [(Value.pointer (Option.some (Addr.mk (blkOf v9) (offOf v9) Option.none))), (Value.string (strOf (List.headD (Array.toList (Value.cells (at_ x0 0))) (Value.tuple ⟨[]⟩))))]) fun v11 =>
                    (cnd
                      (cnd
                        (p41_22 f x1 (blkOf v9) (offOf v9) (List.take ((List.length x0) - 1) (List.drop 1 x0)) (Int.ofNat (List.length (List.take ((List.length x0) - 1) (List.drop 1 x0)))) (0 : Int))
                        Prog.fail
                        (((hdOk 1 x0) && (Nat.ble 1 (List.length x0))) && (Nat.ble (List.length x0) (List.length x0))))
                      Prog.fail
                      ((isTupV v11) && (okNs ((Nm.one (Kd.int IntKind.i64)) :: ((Nm.one Kd.raw) :: [])) (tupOf v11)))))
                  Prog.fail
                  (okK Kd.str (List.headD (Array.toList (Value.cells (at_ x0 0))) (Value.tuple ⟨[]⟩))))
                Prog.fail
                (Nat.ble 1 (List.length (Array.toList (Value.cells (at_ x0 0))))))
              Prog.fail
              (((Nat.ble 1 (List.length x0)) && Bool.true) && (hdOk 1 x0)))
            Prog.fail
            ((isTupV v10) && (okNs [] (tupOf v10)))))
        Prog.fail
        (isPt v9)))
      (Prog.newH (Hdr.mk 2 84 Bool.false Bool.true Bool.true 0 Bool.false Bool.false []) ((Value.pointer Option.none) :: ((Value.slice Option.none 0 0) :: [])) (fun z8 => (Prog.ret (itP z8)))))
    (decide (x41 < x40))) := by kernel_rfl
theorem p41_16_eq (f : Nat) (x0 : List Value) (x1 : ByteArray) (x5 : Int) (x7 : ByteArray) (x39 : List Value) (x40 : Int) (x41 : Int) : p41_16 (f + 1) x0 x1 x5 x7 x39 x40 x41 =
  (p41_12 f x0 x1 (IntKind.wrap IntKind.i64 (x5 + (Int.ofNat (List.length (Array.toList (ByteArray.data x7)))))) x39 x40 (IntKind.wrap IntKind.i64 (x41 + (1 : Int)))) := by kernel_rfl
theorem p41_22_eq (f : Nat) (x1 : ByteArray) (x8 : Nat) (x8o : Nat) (x63 : List Value) (x64 : Int) (x65 : Int) : p41_22 (f + 1) x1 x8 x8o x63 x64 x65 =
  (cnd
    (cnd
      (cnd
        (cnd
          (cnd
            (Prog.call (callF En (runP En f) 78 [(Value.pointer (Option.some (Addr.mk x8 x8o Option.none))), (Value.string x1)]) fun v12 =>
              (cnd
                (Prog.call (callF En (runP En f) 78 [(Value.pointer (Option.some (Addr.mk x8 x8o Option.none))), (Value.string (strOf (List.headD (Array.toList (Value.cells (at_ x63 (Int.toNat x65)))) (Value.tuple ⟨[]⟩))))]) fun v13 =>
                  (cnd
                    (p41_22 f x1 x8 x8o x63 x64 (IntKind.wrap IntKind.i64 (x65 + (1 : Int))))
                    Prog.fail
                    ((isTupV v13) && (okNs ((Nm.one (Kd.int IntKind.i64)) :: ((Nm.one Kd.raw) :: [])) (tupOf v13)))))
                Prog.fail
                ((isTupV v12) && (okNs ((Nm.one (Kd.int IntKind.i64)) :: ((Nm.one Kd.raw) :: [])) (tupOf v12)))))
            Prog.fail
            (okK Kd.str (List.headD (Array.toList (Value.cells (at_ x63 (Int.toNat x65)))) (Value.tuple ⟨[]⟩))))
          Prog.fail
          (Nat.ble 1 (List.length (Array.toList (Value.cells (at_ x63 (Int.toNat x65)))))))
        Prog.fail
        (((Nat.ble (Nat.succ (Int.toNat x65)) (List.length x63)) && Bool.true) && (hdOk 1 x63)))
      Prog.fail
      (decide ((0 : Int) ≤ x65)))
    (Prog.call (callF En (runP En f) 55 [(Value.pointer (Option.some (Addr.mk x8 x8o Option.none)))]) fun v14 =>
      (cnd
        (Prog.ret (Value.string (strOf v14)))
        Prog.fail
        (okK Kd.str v14)))
    (decide (x65 < x64))) := by kernel_rfl
theorem f41_eq (f : Nat) (x0 : List Value) (x1 : ByteArray) : callF En (runP En (f + 1)) 41 [(lstV x0), (Value.string x1)] =
  (cnd
    (Prog.ret (Value.string (mkStr [])))
    (cnd
      (cnd
        (cnd
          (cnd
            (Prog.ret (Value.string (strOf (List.headD (Array.toList (Value.cells (at_ x0 0))) (Value.tuple ⟨[]⟩)))))
            Prog.fail
            (okK Kd.str (List.headD (Array.toList (Value.cells (at_ x0 0))) (Value.tuple ⟨[]⟩))))
          Prog.fail
          (Nat.ble 1 (List.length (Array.toList (Value.cells (at_ x0 0))))))
        Prog.fail
        (((Nat.ble 1 (List.length x0)) && Bool.true) && (hdOk 1 x0)))
      (cnd
        (cnd
          (cnd
            Prog.fail
            (p41_10 f x0 x1 (0 : Int))
            (decide ((Int.ofNat (List.length (Array.toList (ByteArray.data x1)))) ≥ (IntKind.wrap IntKind.i64 (Int.tdiv (9223372036854775807 : Int) (IntKind.wrap IntKind.i64 (Int.subNatNat (List.length x0) 1)))))))
          Prog.fail
          (decide ((IntKind.wrap IntKind.i64 (Int.subNatNat (List.length x0) 1)) ≠ (0 : Int))))
        (p41_11 f x0 x1 (0 : Int))
        (decide ((Int.ofNat (List.length (Array.toList (ByteArray.data x1)))) > (0 : Int))))
      (decide ((Int.ofNat (List.length x0)) = (1 : Int))))
    (decide ((Int.ofNat (List.length x0)) = (0 : Int)))) := by kernel_rfl
end Go.Proofs.YtmjbmbmnnephjaaGreatDoor
/- What comes of the points of a function: printed by the tool. -/
namespace Go.Proofs.YtmjbmbmnnephjaaGreatDoor
open Go Go.Ev Go.Proofs
set_option maxRecDepth 8000
set_option linter.unusedVariables false
noncomputable def p42_4 (f : Nat) (x0 : ByteArray) (x3 : ByteArray) (x4 : Value) (x5 : Int) : Prog := runP En f 42 (tmL 42 [(0, (Value.string x0)), (3, (Value.string x3)), (4, x4), (5, (Value.int IntKind.i64 x5))]) [.code (cL (cL (cI (cI (cR (cL (cR (cR (cR (cB 42)))))))))), .code (cR (cL (cI (cI (cR (cL (cR (cR (cR (cB 42)))))))))), .code (cR (cI (cI (cR (cL (cR (cR (cR (cB 42))))))))), .inLoop (cI (cI (cR (cL (cR (cR (cR (cB 42)))))))), .inBlock 0, .code (cR (cR (cR (cR (cB 42)))))] [] none
noncomputable def p42_5 (f : Nat) (x0 : ByteArray) (x3 : ByteArray) (x4 : Value) (x5 : Int) : Prog := runP En f 42 (tmL 42 [(0, (Value.string x0)), (3, (Value.string x3)), (4, x4), (5, (Value.int IntKind.i64 x5))]) [.code (cR (cR (cI (cI (cR (cL (cR (cR (cR (cB 42)))))))))), .inLoop (cI (cI (cR (cL (cR (cR (cR (cB 42)))))))), .inBlock 0, .code (cR (cR (cR (cR (cB 42)))))] [] none
theorem p42_4_eq (f : Nat) (x0 : ByteArray) (x3 : ByteArray) (x4 : Value) (x5 : Int) : p42_4 (f + 1) x0 x3 x4 x5 =
  (cnd
    (cnd
      (cnd
        (Prog.call (callF En (runP En f) 79 [(Value.int IntKind.u8 (Int.ofNat (byteAt x0 (Int.toNat x5))))]) fun v57 =>
          (cnd
            (cnd
              (cnd
                (cnd
                  (callP (fun v58 =>
                    (p42_5 f x0 x3 v58 x5))
                    (builtinA En Builtin.append (65 :: (65 :: [])) (x4 :: ((xlstV ((Value.int IntKind.u8 (Int.ofNat (byteAt x0 (Int.toNat x5)))) :: [])) :: []))))
                  Prog.fail
                  (Nat.ble (Nat.succ (Int.toNat x5)) (List.length (Array.toList (ByteArray.data x0)))))
                Prog.fail
                (decide ((0 : Int) ≤ x5)))
              (cnd
                (cnd
                  (cnd
                    (cnd
                      (cnd
                        (cnd
                          (cnd
                            (Prog.seg (buildSliceA En 65 4 ((Prod.mk 0 (Value.int IntKind.u8 (92 : Int))) :: ((Prod.mk 1 (Value.int IntKind.u8 (120 : Int))) :: ((Prod.mk 2 (Value.int IntKind.u8 (Int.ofNat (byteAt x3 (Int.toNat (IntKind.wrap IntKind.u8 (Int.ofNat (Nat.div (byteAt x0 (Int.toNat x5)) 16)))))))) :: ((Prod.mk 3 (Value.int IntKind.u8 (Int.ofNat (byteAt x3 (Nat.mod (byteAt x0 (Int.toNat x5)) 16))))) :: []))))) fun v59 s60 _ =>
                              (Prog.seg (builtinA En Builtin.append (65 :: (65 :: [])) (x4 :: (v59 :: []))) fun v61 s62 _ =>
                                (gdL 16383 (writesOf s62) s62 [⟨13, writesOf s60, s60⟩]
                                  (p42_5 f x0 x3 v61 x5))))
                            Prog.fail
                            (Nat.ble (Nat.succ (Nat.mod (byteAt x0 (Int.toNat x5)) 16)) (List.length (Array.toList (ByteArray.data x3)))))
                          Prog.fail
                          (Nat.ble (Nat.succ (Int.toNat x5)) (List.length (Array.toList (ByteArray.data x0)))))
                        Prog.fail
                        (decide ((0 : Int) ≤ x5)))
                      Prog.fail
                      (Nat.ble (Nat.succ (Int.toNat (IntKind.wrap IntKind.u8 (Int.ofNat (Nat.div (byteAt x0 (Int.toNat x5)) 16))))) (List.length (Array.toList (ByteArray.data x3)))))
                    Prog.fail
                    (decide ((0 : Int) ≤ (IntKind.wrap IntKind.u8 (Int.ofNat (Nat.div (byteAt x0 (Int.toNat x5)) 16))))))
                  Prog.fail
                  (Nat.ble (Nat.succ (Int.toNat x5)) (List.length (Array.toList (ByteArray.data x0)))))
                Prog.fail
                (decide ((0 : Int) ≤ x5)))
              (boolOf v57))
            Prog.fail
            (okK Kd.bool v57)))
        Prog.fail
        (Nat.ble (Nat.succ (Int.toNat x5)) (List.length (Array.toList (ByteArray.data x0)))))
      Prog.fail
      (decide ((0 : Int) ≤ x5)))
    (callP (fun v63 =>
      (callP (fun v112 =>
        (Prog.ret v112))
        (convA En 65 9 v63)))
      (builtinA En Builtin.append (65 :: (65 :: [])) (x4 :: ((xlstV ((Value.int IntKind.u8 (34 : Int)) :: [])) :: []))))
    (decide (x5 < (Int.ofNat (List.length (Array.toList (ByteArray.data x0))))))) := by kernel_rfl
theorem p42_5_eq (f : Nat) (x0 : ByteArray) (x3 : ByteArray) (x4 : Value) (x5 : Int) : p42_5 (f + 1) x0 x3 x4 x5 =
  (p42_4 f x0 x3 x4 (IntKind.wrap IntKind.i64 (x5 + (1 : Int)))) := by kernel_rfl
theorem f42_eq (f : Nat) (x0 : ByteArray) : callF En (runP En (f + 1)) 42 [(Value.string x0)] =
  (p42_4 f x0 (mkStr [48, 49, 50, 51, 52, 53, 54, 55, 56, 57, 97, 98, 99, 100, 101, 102]) (xlstV ((Value.int IntKind.u8 (34 : Int)) :: [])) (0 : Int)) := by kernel_rfl
end Go.Proofs.YtmjbmbmnnephjaaGreatDoor
/- What comes of the points of a function: printed by the tool. -/
namespace Go.Proofs.YtmjbmbmnnephjaaGreatDoor
open Go Go.Ev Go.Proofs
set_option maxRecDepth 8000
set_option linter.unusedVariables false
theorem f43_eq (f : Nat) (x0 : Int) : callF En (runP En (f + 1)) 43 [(Value.int IntKind.u8 x0)] =
  (Prog.call (callF En (runP En f) 44 [(Value.int IntKind.u8 x0)]) fun v3 =>
    (cnd
      (cnd
        (Prog.ret (Value.bool Bool.true))
        (Prog.call (callF En (runP En f) 60 [(Value.int IntKind.u8 x0)]) fun v4 =>
          (cnd
            (cnd
              (Prog.ret (Value.bool Bool.true))
              (Prog.ret (Value.bool (decide (x0 = (95 : Int)))))
              (boolOf v4))
            Prog.fail
            (okK Kd.bool v4)))
        (boolOf v3))
      Prog.fail
      (okK Kd.bool v3))) := by kernel_rfl
end Go.Proofs.YtmjbmbmnnephjaaGreatDoor
/- What comes of the points of a function: printed by the tool. -/
namespace Go.Proofs.YtmjbmbmnnephjaaGreatDoor
open Go Go.Ev Go.Proofs
set_option maxRecDepth 8000
set_option linter.unusedVariables false
theorem f44_eq (f : Nat) (x0 : Int) : callF En (runP En (f + 1)) 44 [(Value.int IntKind.u8 x0)] =
  (cnd
    (cnd
      (Prog.ret (Value.bool Bool.true))
      (cnd
        (Prog.ret (Value.bool (decide (x0 ≤ (90 : Int)))))
        (Prog.ret (Value.bool Bool.false))
        (decide (x0 ≥ (65 : Int))))
      (decide (x0 ≤ (122 : Int))))
    (cnd
      (Prog.ret (Value.bool (decide (x0 ≤ (90 : Int)))))
      (Prog.ret (Value.bool Bool.false))
      (decide (x0 ≥ (65 : Int))))
    (decide (x0 ≥ (97 : Int)))) := by kernel_rfl
end Go.Proofs.YtmjbmbmnnephjaaGreatDoor
/- What comes of the points of a function: printed by the tool. -/
namespace Go.Proofs.YtmjbmbmnnephjaaGreatDoor
open Go Go.Ev Go.Proofs
set_option maxRecDepth 8000
set_option linter.unusedVariables false
theorem f45_eq (f : Nat) (x0 : Int) : callF En (runP En (f + 1)) 45 [(Value.int IntKind.u8 x0)] =
  (cnd
    (cnd
      (Prog.ret (Value.bool Bool.true))
      (cnd
        (Prog.ret (Value.bool (decide (x0 ≤ (90 : Int)))))
        (Prog.ret (Value.bool Bool.false))
        (decide (x0 ≥ (65 : Int))))
      (decide (x0 ≤ (122 : Int))))
    (cnd
      (Prog.ret (Value.bool (decide (x0 ≤ (90 : Int)))))
      (Prog.ret (Value.bool Bool.false))
      (decide (x0 ≥ (65 : Int))))
    (decide (x0 ≥ (97 : Int)))) := by kernel_rfl
end Go.Proofs.YtmjbmbmnnephjaaGreatDoor
/- What comes of the points of a function: printed by the tool. -/
namespace Go.Proofs.YtmjbmbmnnephjaaGreatDoor
open Go Go.Ev Go.Proofs
set_option maxRecDepth 8000
set_option linter.unusedVariables false
theorem f46_eq (f : Nat) (x0 : Int) : callF En (runP En (f + 1)) 46 [(Value.int IntKind.u8 x0)] =
  (Prog.call (callF En (runP En f) 45 [(Value.int IntKind.u8 x0)]) fun v3 =>
    (cnd
      (cnd
        (Prog.ret (Value.bool Bool.true))
        (Prog.call (callF En (runP En f) 80 [(Value.int IntKind.u8 x0)]) fun v4 =>
          (cnd
            (cnd
              (Prog.ret (Value.bool Bool.true))
              (Prog.ret (Value.bool (decide (x0 = (95 : Int)))))
              (boolOf v4))
            Prog.fail
            (okK Kd.bool v4)))
        (boolOf v3))
      Prog.fail
      (okK Kd.bool v3))) := by kernel_rfl
end Go.Proofs.YtmjbmbmnnephjaaGreatDoor
/- What comes of the points of a function: printed by the tool. -/
namespace Go.Proofs.YtmjbmbmnnephjaaGreatDoor
open Go Go.Ev Go.Proofs
set_option maxRecDepth 8000
set_option linter.unusedVariables false
theorem f55_eq (f : Nat) (x0 : Nat) : callF En (runP En (f + 1)) 55 [(Value.pointer (Option.some (Addr.mk x0 0 Option.none)))] =
  (Prog.seg (loadT En 65 x0 1) fun v11 s12 _ =>
    (Prog.seg (builtinA En Builtin.unsafeSliceData (65 :: []) (v11 :: [])) fun v13 s14 _ =>
      (gdL 15 (writesOf s14) s14 [⟨3, writesOf s12, s12⟩]
        (Prog.seg (loadT En 65 x0 1) fun v15 s16 _ =>
          (gdL 224 (writesOf s16) s16 [⟨4, writesOf s14, s14⟩, ⟨3, writesOf s12, s12⟩]
            (Prog.seg (builtinA En Builtin.len (65 :: []) (v15 :: [])) fun v17 s18 _ =>
              (gdL 480 (writesOf s18) s18 [⟨8, writesOf s16, s16⟩, ⟨4, writesOf s14, s14⟩, ⟨3, writesOf s12, s12⟩]
                (cnd
                  (Prog.seg (builtinA En Builtin.unsafeString (113 :: (3 :: [])) (v13 :: ((Value.int IntKind.i64 (intOf v17)) :: []))) fun v19 s20 _ =>
                    (gdL 1023 (writesOf s20) s20 [⟨9, writesOf s18, s18⟩, ⟨8, writesOf s16, s16⟩, ⟨4, writesOf s14, s14⟩, ⟨3, writesOf s12, s12⟩]
                      (Prog.ret v19)))
                  Prog.fail
                  (okK (Kd.int IntKind.i64) v17))))))))) := by kernel_rfl
end Go.Proofs.YtmjbmbmnnephjaaGreatDoor
/- What comes of the points of a function: printed by the tool. -/
namespace Go.Proofs.YtmjbmbmnnephjaaGreatDoor
open Go Go.Ev Go.Proofs
set_option maxRecDepth 8000
set_option linter.unusedVariables false
theorem f59_eq (f : Nat) (x0 : Nat) (x1 : Int) : callF En (runP En (f + 1)) 59 [(Value.pointer (Option.some (Addr.mk x0 0 Option.none))), (Value.int IntKind.i64 x1)] =
  (Prog.seg (loadT En 3 x0 1) fun v9 s10 _ =>
    (cnd
      (Prog.seg (loadT En 9 x0 0) fun v11 s12 _ =>
        (gdL 448 (writesOf s12) s12 [⟨3, writesOf s10, s10⟩]
          (cnd
            (cnd
              (Prog.seg (loadT En 9 x0 0) fun v13 s14 _ =>
                (cnd
                  (Prog.seg (loadT En 3 x0 1) fun v15 s16 _ =>
                    (gdL 112 (writesOf s16) s16 [⟨3, writesOf s14, s14⟩]
                      (cnd
                        (cnd
                          (cnd
                            (Prog.ret (Value.int IntKind.u8 (Int.ofNat (byteAt (strOf v13) (Int.toNat (IntKind.wrap IntKind.i64 ((intOf v15) + x1)))))))
                            Prog.fail
                            (Nat.ble (Nat.succ (Int.toNat (IntKind.wrap IntKind.i64 ((intOf v15) + x1)))) (List.length (Array.toList (ByteArray.data (strOf v13))))))
                          Prog.fail
                          (decide ((0 : Int) ≤ (IntKind.wrap IntKind.i64 ((intOf v15) + x1)))))
                        Prog.fail
                        (okK (Kd.int IntKind.i64) v15))))
                  Prog.fail
                  (okK Kd.str v13)))
              (Prog.ret (Value.int IntKind.u8 (0 : Int)))
              (decide ((IntKind.wrap IntKind.i64 ((intOf v9) + x1)) < (Int.ofNat (List.length (Array.toList (ByteArray.data (strOf v11))))))))
            Prog.fail
            (okK Kd.str v11))))
      Prog.fail
      (okK (Kd.int IntKind.i64) v9))) := by kernel_rfl
end Go.Proofs.YtmjbmbmnnephjaaGreatDoor
/- What comes of the points of a function: printed by the tool. -/
namespace Go.Proofs.YtmjbmbmnnephjaaGreatDoor
open Go Go.Ev Go.Proofs
set_option maxRecDepth 8000
set_option linter.unusedVariables false
theorem f60_eq (f : Nat) (x0 : Int) : callF En (runP En (f + 1)) 60 [(Value.int IntKind.u8 x0)] =
  (cnd
    (Prog.ret (Value.bool (decide (x0 ≤ (57 : Int)))))
    (Prog.ret (Value.bool Bool.false))
    (decide (x0 ≥ (48 : Int)))) := by kernel_rfl
end Go.Proofs.YtmjbmbmnnephjaaGreatDoor
/- What comes of the points of a function: printed by the tool. -/
namespace Go.Proofs.YtmjbmbmnnephjaaGreatDoor
open Go Go.Ev Go.Proofs
set_option maxRecDepth 8000
set_option linter.unusedVariables false
noncomputable def p77_3 (f : Nat) (x0 : Nat) (x1 : Int) : Prog := runP En f 77 (tmL 25 [(0, (Value.pointer (Option.some (Addr.mk x0 0 Option.none)))), (1, (Value.int IntKind.i64 x1))]) [.code (cL (cR (cR (cB 77)))), .code (cR (cR (cR (cB 77))))] [] none
theorem p77_3_eq (f : Nat) (x0 : Nat) (x1 : Int) : p77_3 (f + 1) x0 x1 =
  (Prog.seg (loadT En 65 x0 1) fun v2 s3 _ =>
    (Prog.seg (builtinA En Builtin.cap (65 :: []) (v2 :: [])) fun v4 s5 _ =>
      (gdL 15 (writesOf s5) s5 [⟨3, writesOf s3, s3⟩]
        (cnd
          (Prog.seg (loadT En 65 x0 1) fun v6 s7 _ =>
            (gdL 224 (writesOf s7) s7 [⟨4, writesOf s5, s5⟩, ⟨3, writesOf s3, s3⟩]
              (Prog.seg (builtinA En Builtin.len (65 :: []) (v6 :: [])) fun v8 s9 _ =>
                (gdL 480 (writesOf s9) s9 [⟨8, writesOf s7, s7⟩, ⟨4, writesOf s5, s5⟩, ⟨3, writesOf s3, s3⟩]
                  (cnd
                    (cnd
                      (Prog.call (callF En (runP En f) 135 [(Value.pointer (Option.some (Addr.mk x0 0 Option.none))), (Value.int IntKind.i64 x1)]) fun v10 =>
                        (cnd
                          (Prog.ret (Value.tuple ⟨[]⟩))
                          Prog.fail
                          ((isTupV v10) && (okNs [] (tupOf v10)))))
                      (Prog.ret (Value.tuple ⟨[]⟩))
                      (decide ((IntKind.wrap IntKind.i64 ((intOf v4) + (Int.neg (intOf v8)))) < x1)))
                    Prog.fail
                    (okK (Kd.int IntKind.i64) v8))))))
          Prog.fail
          (okK (Kd.int IntKind.i64) v4))))) := by kernel_rfl
theorem f77_eq (f : Nat) (x0 : Nat) (x1 : Int) : callF En (runP En (f + 1)) 77 [(Value.pointer (Option.some (Addr.mk x0 0 Option.none))), (Value.int IntKind.i64 x1)] =
  (Prog.call (callF En (runP En f) 134 [(Value.pointer (Option.some (Addr.mk x0 0 Option.none)))]) fun v11 =>
    (cnd
      (cnd
        Prog.fail
        (p77_3 f x0 x1)
        (decide (x1 < (0 : Int))))
      Prog.fail
      ((isTupV v11) && (okNs [] (tupOf v11))))) := by kernel_rfl
end Go.Proofs.YtmjbmbmnnephjaaGreatDoor
/- What comes of the points of a function: printed by the tool. -/
namespace Go.Proofs.YtmjbmbmnnephjaaGreatDoor
open Go Go.Ev Go.Proofs
set_option maxRecDepth 8000
set_option linter.unusedVariables false
theorem f78_eq (f : Nat) (x0 : Nat) (x1 : ByteArray) : callF En (runP En (f + 1)) 78 [(Value.pointer (Option.some (Addr.mk x0 0 Option.none))), (Value.string x1)] =
  (Prog.call (callF En (runP En f) 134 [(Value.pointer (Option.some (Addr.mk x0 0 Option.none)))]) fun v5 =>
    (cnd
      (callP (fun v6 =>
        (callP (fun v7 =>
          (callP (fun v8 =>
            (Prog.ret (Value.tuple ⟨((Value.int IntKind.i64 (Int.ofNat (List.length (Array.toList (ByteArray.data x1))))) :: (Value.nilIface :: []))⟩)))
            (storeT En 65 x0 1 v7)))
          (builtinA En Builtin.append (65 :: (9 :: [])) (v6 :: ((Value.string x1) :: [])))))
        (loadT En 65 x0 1))
      Prog.fail
      ((isTupV v5) && (okNs [] (tupOf v5))))) := by kernel_rfl
end Go.Proofs.YtmjbmbmnnephjaaGreatDoor
/- What comes of the points of a function: printed by the tool. -/
namespace Go.Proofs.YtmjbmbmnnephjaaGreatDoor
open Go Go.Ev Go.Proofs
set_option maxRecDepth 8000
set_option linter.unusedVariables false
theorem f79_eq (f : Nat) (x0 : Int) : callF En (runP En (f + 1)) 79 [(Value.int IntKind.u8 x0)] =
  (cnd
    (cnd
      (cnd
        (Prog.ret (Value.bool (Bool.not (decide (x0 = (92 : Int))))))
        (Prog.ret (Value.bool Bool.false))
        (Bool.not (decide (x0 = (34 : Int)))))
      (Prog.ret (Value.bool Bool.false))
      (decide (x0 ≤ (126 : Int))))
    (Prog.ret (Value.bool Bool.false))
    (decide (x0 ≥ (32 : Int)))) := by kernel_rfl
end Go.Proofs.YtmjbmbmnnephjaaGreatDoor
/- What comes of the points of a function: printed by the tool. -/
namespace Go.Proofs.YtmjbmbmnnephjaaGreatDoor
open Go Go.Ev Go.Proofs
set_option maxRecDepth 8000
set_option linter.unusedVariables false
theorem f80_eq (f : Nat) (x0 : Int) : callF En (runP En (f + 1)) 80 [(Value.int IntKind.u8 x0)] =
  (cnd
    (Prog.ret (Value.bool (decide (x0 ≤ (57 : Int)))))
    (Prog.ret (Value.bool Bool.false))
    (decide (x0 ≥ (48 : Int)))) := by kernel_rfl
end Go.Proofs.YtmjbmbmnnephjaaGreatDoor
/- What comes of the points of a function: printed by the tool. -/
namespace Go.Proofs.YtmjbmbmnnephjaaGreatDoor
open Go Go.Ev Go.Proofs
set_option maxRecDepth 8000
set_option linter.unusedVariables false
theorem f134_eq (f : Nat) (x0 : Nat) : callF En (runP En (f + 1)) 134 [(Value.pointer (Option.some (Addr.mk x0 0 Option.none)))] =
  (callP (fun v12 =>
    (binK En BinOp.eql 82 (Operand.tmp 5) (Operand.const (Value.pointer Option.none)) v12 (Value.pointer Option.none) fun v13 =>
      (cnd
        (cnd
          (callP (fun v15 =>
            (Prog.call (callF En (runP En f) 182 [v15]) fun v16 =>
              (cnd
                (callP (fun v19 =>
                  (callP (fun v20 =>
                    (Prog.ret (Value.tuple ⟨[]⟩)))
                    (storeT En 82 x0 0 v19)))
                  (Prog.hd (blkOf v16) (fun z17 => (opt (Env.size En (Hdr.el z17)) (fun z18 => (gd (((Hdr.ex z17) && (Hdr.z z17)) && (liesAt (Env.P En) (Program.depth (Env.P En)) (Hdr.el z17) (Nat.div (Hdr.n z17) z18) (Addr.off (Addr.mk (blkOf v16) (offOf v16) Option.none)) (OfNat.ofNat 84) (OfNat.ofNat 1))) (Prog.ret (Value.pointer (Option.some (Addr.mk (blkOf v16) (offOf v16) Option.none))))))))))
                Prog.fail
                (isPt v16))))
            (Prog.hd x0 (fun z14 => (gd (Nat.blt (Addr.off (Addr.mk x0 0 Option.none)) (Hdr.n z14)) (Prog.ret (Value.pointer (Option.some (Addr.mk x0 0 Option.none))))))))
          (callP (fun v21 =>
            (binK En BinOp.neq 82 (Operand.tmp 17) (Operand.tmp 18) v21 (Value.pointer (Option.some (Addr.mk x0 0 Option.none))) fun v22 =>
              (cnd
                (cnd
                  Prog.fail
                  (Prog.ret (Value.tuple ⟨[]⟩))
                  (boolOf v22))
                Prog.fail
                (okK Kd.bool v22))))
            (loadT En 82 x0 0))
          (boolOf v13))
        Prog.fail
        (okK Kd.bool v13))))
    (loadT En 82 x0 0)) := by kernel_rfl
end Go.Proofs.YtmjbmbmnnephjaaGreatDoor
/- What comes of the points of a function: printed by the tool. -/
namespace Go.Proofs.YtmjbmbmnnephjaaGreatDoor
open Go Go.Ev Go.Proofs
set_option maxRecDepth 8000
set_option linter.unusedVariables false
theorem f135_eq (f : Nat) (x0 : Nat) (x1 : Int) : callF En (runP En (f + 1)) 135 [(Value.pointer (Option.some (Addr.mk x0 0 Option.none))), (Value.int IntKind.i64 x1)] =
  (Prog.seg (loadT En 65 x0 1) fun v16 s17 _ =>
    (Prog.seg (builtinA En Builtin.cap (65 :: []) (v16 :: [])) fun v18 s19 _ =>
      (gdL 15 (writesOf s19) s19 [⟨3, writesOf s17, s17⟩]
        (cnd
          (Prog.seg (callF En (runP En f) 183 [(Value.int IntKind.i64 (IntKind.wrap IntKind.i64 ((IntKind.wrap IntKind.i64 ((2 : Int) * (intOf v18))) + x1)))]) fun v20 s21 _ =>
            (gdL 255 (writesOf s21) s21 [⟨4, writesOf s19, s19⟩, ⟨3, writesOf s17, s17⟩]
              (cnd
                (Prog.seg (loadT En 65 x0 1) fun v22 s23 _ =>
                  (gdL 3584 (writesOf s23) s23 [⟨8, writesOf s21, s21⟩, ⟨4, writesOf s19, s19⟩, ⟨3, writesOf s17, s17⟩]
                    (Prog.seg (builtinA En Builtin.len (65 :: []) (v22 :: [])) fun v24 s25 _ =>
                      (gdL 7680 (writesOf s25) s25 [⟨12, writesOf s23, s23⟩, ⟨8, writesOf s21, s21⟩, ⟨4, writesOf s19, s19⟩, ⟨3, writesOf s17, s17⟩]
                        (cnd
                          (Prog.seg (sliceA En 65 (Value.slice (Option.some (Addr.mk (sBlk v20) (sOff v20) Option.none)) (sLen v20) (sCap v20)) Option.none (Option.some (Value.int IntKind.i64 (intOf v24))) Option.none) fun v26 s27 _ =>
                            (gdL 16383 (writesOf s27) s27 [⟨13, writesOf s25, s25⟩, ⟨12, writesOf s23, s23⟩, ⟨8, writesOf s21, s21⟩, ⟨4, writesOf s19, s19⟩, ⟨3, writesOf s17, s17⟩]
                              (cnd
                                (callP (fun v28 =>
                                  (callP (fun v29 =>
                                    (cnd
                                      (callP (fun v30 =>
                                        (Prog.ret (Value.tuple ⟨[]⟩)))
                                        (storeT En 65 x0 1 (Value.slice (Option.some (Addr.mk (sBlk v26) (sOff v26) Option.none)) (sLen v26) (sCap v26))))
                                      Prog.fail
                                      (okK (Kd.int IntKind.i64) v29)))
                                    (builtinA En Builtin.copy (65 :: (65 :: [])) ((Value.slice (Option.some (Addr.mk (sBlk v26) (sOff v26) Option.none)) (sLen v26) (sCap v26)) :: (v28 :: [])))))
                                  (loadT En 65 x0 1))
                                Prog.fail
                                (isSl v26))))
                          Prog.fail
                          (okK (Kd.int IntKind.i64) v24))))))
                Prog.fail
                (isSl v20))))
          Prog.fail
          (okK (Kd.int IntKind.i64) v18))))) := by kernel_rfl
end Go.Proofs.YtmjbmbmnnephjaaGreatDoor
