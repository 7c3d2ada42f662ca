/- What comes of the points of a function: printed by the tool. -/
import Derived.Test.YtmjbmbmnnephjaaGreatDoorLxKB
namespace Go.Proofs.YtmjbmbmnnephjaaGreatDoor
open Go Go.Ev Go.Proofs
set_option maxRecDepth 8000
set_option linter.unusedVariables false
noncomputable def p3_8 (f : Nat) (x0 : ByteArray) (x3 : List Value) (x6 : Int) (x7 : Int) : Prog := runP En f 3 (tmL 122 [(0, (Value.string x0)), (3, (lstV x3)), (6, (Value.int IntKind.i64 x6)), (7, (Value.int IntKind.i64 x7))]) [.code (cL (cL (cI (cI (cR (cL (cR (cR (cR (cR (cR (cB 3)))))))))))), .code (cR (cL (cI (cI (cR (cL (cR (cR (cR (cR (cR (cB 3)))))))))))), .code (cR (cI (cI (cR (cL (cR (cR (cR (cR (cR (cB 3))))))))))), .inLoop (cI (cI (cR (cL (cR (cR (cR (cR (cR (cB 3)))))))))), .inBlock 0, .code (cR (cR (cR (cR (cR (cR (cB 3)))))))] [] none
noncomputable def p3_13 (f : Nat) (x0 : ByteArray) (x3 : List Value) (x6 : Int) (x7 : Int) (x8 : Nat) (x8o : Nat) : Prog := runP En f 3 (tmL 122 [(0, (Value.string x0)), (3, (lstV x3)), (6, (Value.int IntKind.i64 x6)), (7, (Value.int IntKind.i64 x7)), (8, (Value.pointer (Option.some (Addr.mk x8 x8o Option.none))))]) [.code (cL (cL (cI (cI (cL (cR (cR (cI (cL (cR (cI (cI (cR (cL (cR (cR (cR (cR (cR (cB 3)))))))))))))))))))), .code (cR (cL (cI (cI (cL (cR (cR (cI (cL (cR (cI (cI (cR (cL (cR (cR (cR (cR (cR (cB 3)))))))))))))))))))), .code (cR (cI (cI (cL (cR (cR (cI (cL (cR (cI (cI (cR (cL (cR (cR (cR (cR (cR (cB 3))))))))))))))))))), .inLoop (cI (cI (cL (cR (cR (cI (cL (cR (cI (cI (cR (cL (cR (cR (cR (cR (cR (cB 3)))))))))))))))))), .inBlock 2, .code (cR (cR (cR (cI (cL (cR (cI (cI (cR (cL (cR (cR (cR (cR (cR (cB 3)))))))))))))))), .inBlock 1, .code (cR (cR (cI (cI (cR (cL (cR (cR (cR (cR (cR (cB 3)))))))))))), .inLoop (cI (cI (cR (cL (cR (cR (cR (cR (cR (cB 3)))))))))), .inBlock 0, .code (cR (cR (cR (cR (cR (cR (cB 3)))))))] [] none
noncomputable def p3_22 (f : Nat) (x0 : ByteArray) (x6 : Int) : Prog := runP En f 3 (tmL 122 [(0, (Value.string x0)), (6, (Value.int IntKind.i64 x6))]) [.code (cL (cL (cI (cI (cL (cR (cR (cR (cR (cR (cR (cB 3)))))))))))), .code (cR (cL (cI (cI (cL (cR (cR (cR (cR (cR (cR (cB 3)))))))))))), .code (cR (cI (cI (cL (cR (cR (cR (cR (cR (cR (cB 3))))))))))), .inLoop (cI (cI (cL (cR (cR (cR (cR (cR (cR (cB 3)))))))))), .inBlock 4, .code (cR (cR (cR (cR (cR (cR (cR (cB 3))))))))] [] none
theorem p3_8_eq (f : Nat) (x0 : ByteArray) (x3 : List Value) (x6 : Int) (x7 : Int) : p3_8 (f + 1) x0 x3 x6 x7 =
  (cnd
    (cnd
      (cnd
        (cnd
          (cnd
            (callP (fun v35 =>
              (cnd
                (callP (fun v36 =>
                  (callP (fun v37 =>
                    (cnd
                      (cnd
                        (Prog.ret (Value.bool Bool.false))
                        (callP (fun v38 =>
                          (cnd
                            (callP (fun v39 =>
                              (cnd
                                (cnd
                                  (Prog.ret (Value.bool Bool.false))
                                  (callP (fun v40 =>
                                    (cnd
                                      (cnd
                                        (Prog.ret (Value.bool Bool.false))
                                        (callP (fun v41 =>
                                          (cnd
                                            (cnd
                                              (Prog.ret (Value.bool Bool.false))
                                              (callP (fun v42 =>
                                                (cnd
                                                  (cnd
                                                    (Prog.ret (Value.bool Bool.false))
                                                    (p3_13 f x0 x3 x6 x7 (blkOf v35) (offOf v35))
                                                    (decide ((intOf v42) > (6 : Int))))
                                                  Prog.fail
                                                  (okK (Kd.int IntKind.i64) v42)))
                                                (loadT En 3 (blkOf v35) ((offOf v35) + 0)))
                                              (decide ((intOf v41) < (1 : Int))))
                                            Prog.fail
                                            (okK (Kd.int IntKind.i64) v41)))
                                          (loadT En 3 (blkOf v35) ((offOf v35) + 0)))
                                        (decide ((intOf v40) > (Int.ofNat (List.length (Array.toList (ByteArray.data x0)))))))
                                      Prog.fail
                                      (okK (Kd.int IntKind.i64) v40)))
                                    (loadT En 3 (blkOf v35) ((offOf v35) + 2)))
                                  (decide ((intOf v38) ≤ (intOf v39))))
                                Prog.fail
                                (okK (Kd.int IntKind.i64) v39)))
                              (loadT En 3 (blkOf v35) ((offOf v35) + 1)))
                            Prog.fail
                            (okK (Kd.int IntKind.i64) v38)))
                          (loadT En 3 (blkOf v35) ((offOf v35) + 2)))
                        (decide ((intOf v37) < x6)))
                      Prog.fail
                      (okK (Kd.int IntKind.i64) v37)))
                    (loadT En 3 (blkOf v35) ((offOf v35) + 1))))
                  (storeT En 34 (blkOf v35) (offOf v35) (Value.agg ⟨((Value.int IntKind.i64 (intOf (at_ (List.take 8 (Array.toList (Value.cells (at_ x3 (Int.toNat x7))))) 0))) :: ((Value.int IntKind.i64 (intOf (at_ (List.take 8 (Array.toList (Value.cells (at_ x3 (Int.toNat x7))))) 1))) :: ((Value.int IntKind.i64 (intOf (at_ (List.take 8 (Array.toList (Value.cells (at_ x3 (Int.toNat x7))))) 2))) :: ((Value.string (strOf (at_ (List.take 8 (Array.toList (Value.cells (at_ x3 (Int.toNat x7))))) 3))) :: ((Value.int IntKind.i64 (intOf (at_ (List.take 8 (Array.toList (Value.cells (at_ x3 (Int.toNat x7))))) 4))) :: ((lstV (elems (at_ (List.take 8 (Array.toList (Value.cells (at_ x3 (Int.toNat x7))))) 5))) :: ((lstV (elems (at_ (List.take 8 (Array.toList (Value.cells (at_ x3 (Int.toNat x7))))) 6))) :: ((lstV (elems (at_ (List.take 8 (Array.toList (Value.cells (at_ x3 (Int.toNat x7))))) 7))) :: []))))))))⟩)))
                Prog.fail
                (isPt v35)))
              (Prog.newH (Hdr.mk 8 34 Bool.false Bool.true Bool.true 0 Bool.false Bool.false []) ((Value.int IntKind.i64 (0 : Int)) :: ((Value.int IntKind.i64 (0 : Int)) :: ((Value.int IntKind.i64 (0 : Int)) :: ((Value.string (mkStr [])) :: ((Value.int IntKind.i64 (0 : Int)) :: ((Value.slice Option.none 0 0) :: ((Value.slice Option.none 0 0) :: ((Value.slice Option.none 0 0) :: [])))))))) (fun z34 => (Prog.ret (itP z34)))))
            Prog.fail
            (okKs ((Kd.int IntKind.i64) :: ((Kd.int IntKind.i64) :: ((Kd.int IntKind.i64) :: (Kd.str :: ((Kd.int IntKind.i64) :: (Kd.lst :: (Kd.lst :: (Kd.lst :: [])))))))) (List.take 8 (Array.toList (Value.cells (at_ x3 (Int.toNat x7)))))))
          Prog.fail
          (Nat.ble 8 (List.length (Array.toList (Value.cells (at_ x3 (Int.toNat x7)))))))
        Prog.fail
        (((Nat.ble (Nat.succ (Int.toNat x7)) (List.length x3)) && Bool.true) && (hdOk 8 x3)))
      Prog.fail
      (decide ((0 : Int) ≤ x7)))
    (p3_22 f x0 x6)
    (decide (x7 < (Int.ofNat (List.length x3))))) := by kernel_rfl
theorem p3_13_eq (f : Nat) (x0 : ByteArray) (x3 : List Value) (x6 : Int) (x7 : Int) (x8 : Nat) (x8o : Nat) : p3_13 (f + 1) x0 x3 x6 x7 x8 x8o =
  (callP (fun v43 =>
    (cnd
      (cnd
        (cnd
          (cnd
            (cnd
              (Prog.ret (Value.bool Bool.false))
              (p3_13 f x0 x3 (IntKind.wrap IntKind.i64 (x6 + (1 : Int))) x7 x8 x8o)
              (Bool.not (decide ((Int.ofNat (byteAt x0 (Int.toNat x6))) = (32 : Int)))))
            Prog.fail
            (Nat.ble (Nat.succ (Int.toNat x6)) (List.length (Array.toList (ByteArray.data x0)))))
          Prog.fail
          (decide ((0 : Int) ≤ x6)))
        (Prog.seg (loadT En 3 x8 (x8o + 0)) fun v44 s45 _ =>
          (cnd
            (cnd
              (Prog.seg (loadT En 9 x8 (x8o + 3)) fun v46 s47 _ =>
                (gdL 31 (writesOf s47) s47 [⟨1, writesOf s45, s45⟩]
                  (cnd
                    (Prog.seg (loadT En 3 x8 (x8o + 1)) fun v48 s49 _ =>
                      (gdL 143 (writesOf s49) s49 [⟨5, writesOf s47, s47⟩, ⟨1, writesOf s45, s45⟩]
                        (cnd
                          (Prog.seg (loadT En 3 x8 (x8o + 2)) fun v50 s51 _ =>
                            (gdL 527 (writesOf s51) s51 [⟨8, writesOf s49, s49⟩, ⟨5, writesOf s47, s47⟩, ⟨1, writesOf s45, s45⟩]
                              (cnd
                                (cnd
                                  (cnd
                                    (cnd
                                      (cnd
                                        (Prog.ret (Value.bool Bool.false))
                                        (callP (fun v52 =>
                                          (cnd
                                            (cnd
                                              (callP (fun v53 =>
                                                (cnd
                                                  (Prog.call (callF En (runP En f) 13 [(Value.agg ⟨((Value.int IntKind.i64 (intOf (at_ (aggOf v53) 0))) :: ((lstV (elems (at_ (aggOf v53) 1))) :: ((lstV (elems (at_ (aggOf v53) 2))) :: ((lstV (elems (at_ (aggOf v53) 3))) :: []))))⟩)]) fun v54 =>
                                                    (cnd
                                                      (cnd
                                                        (Prog.ret (Value.bool Bool.false))
                                                        (callP (fun v55 =>
                                                          (cnd
                                                            (p3_8 f x0 x3 (intOf v55) (IntKind.wrap IntKind.i64 (x7 + (1 : Int))))
                                                            Prog.fail
                                                            (okK (Kd.int IntKind.i64) v55)))
                                                          (loadT En 3 x8 (x8o + 2)))
                                                        (Bool.not (decide ((intOf v54) = (0 : Int)))))
                                                      Prog.fail
                                                      (okK (Kd.int IntKind.i64) v54)))
                                                  Prog.fail
                                                  ((isAggV v53) && (okKs ((Kd.int IntKind.i64) :: (Kd.lst :: (Kd.lst :: (Kd.lst :: [])))) (aggOf v53)))))
                                                (loadT En 32 x8 (x8o + 4)))
                                              (callP (fun v56 =>
                                                (cnd
                                                  (p3_8 f x0 x3 (intOf v56) (IntKind.wrap IntKind.i64 (x7 + (1 : Int))))
                                                  Prog.fail
                                                  (okK (Kd.int IntKind.i64) v56)))
                                                (loadT En 3 x8 (x8o + 2)))
                                              (decide ((intOf v52) = (1 : Int))))
                                            Prog.fail
                                            (okK (Kd.int IntKind.i64) v52)))
                                          (loadT En 3 x8 (x8o + 0)))
                                        (Bool.not (beqB (Array.toList (ByteArray.data (strOf v46))) (List.take ((Int.toNat (intOf v50)) - (Int.toNat (intOf v48))) (List.drop (Int.toNat (intOf v48)) (Array.toList (ByteArray.data x0)))))))
                                      Prog.fail
                                      ((Nat.ble (Int.toNat (intOf v48)) (Int.toNat (intOf v50))) && (Nat.ble (Int.toNat (intOf v50)) (List.length (Array.toList (ByteArray.data x0))))))
                                    Prog.fail
                                    (decide ((0 : Int) ≤ (intOf v50))))
                                  Prog.fail
                                  (decide ((0 : Int) ≤ (intOf v48))))
                                Prog.fail
                                (okK (Kd.int IntKind.i64) v50))))
                          Prog.fail
                          (okK (Kd.int IntKind.i64) v48))))
                    Prog.fail
                    (okK Kd.str v46))))
              (callP (fun v57 =>
                (cnd
                  (cnd
                    (callP (fun v58 =>
                      (cnd
                        (Prog.call (callF En (runP En f) 13 [(Value.agg ⟨((Value.int IntKind.i64 (intOf (at_ (aggOf v58) 0))) :: ((lstV (elems (at_ (aggOf v58) 1))) :: ((lstV (elems (at_ (aggOf v58) 2))) :: ((lstV (elems (at_ (aggOf v58) 3))) :: []))))⟩)]) fun v59 =>
                          (cnd
                            (cnd
                              (Prog.ret (Value.bool Bool.false))
                              (callP (fun v60 =>
                                (cnd
                                  (p3_8 f x0 x3 (intOf v60) (IntKind.wrap IntKind.i64 (x7 + (1 : Int))))
                                  Prog.fail
                                  (okK (Kd.int IntKind.i64) v60)))
                                (loadT En 3 x8 (x8o + 2)))
                              (Bool.not (decide ((intOf v59) = (0 : Int)))))
                            Prog.fail
                            (okK (Kd.int IntKind.i64) v59)))
                        Prog.fail
                        ((isAggV v58) && (okKs ((Kd.int IntKind.i64) :: (Kd.lst :: (Kd.lst :: (Kd.lst :: [])))) (aggOf v58)))))
                      (loadT En 32 x8 (x8o + 4)))
                    (callP (fun v61 =>
                      (cnd
                        (p3_8 f x0 x3 (intOf v61) (IntKind.wrap IntKind.i64 (x7 + (1 : Int))))
                        Prog.fail
                        (okK (Kd.int IntKind.i64) v61)))
                      (loadT En 3 x8 (x8o + 2)))
                    (decide ((intOf v57) = (1 : Int))))
                  Prog.fail
                  (okK (Kd.int IntKind.i64) v57)))
                (loadT En 3 x8 (x8o + 0)))
              (Bool.not (decide ((intOf v44) = (3 : Int)))))
            Prog.fail
            (okK (Kd.int IntKind.i64) v44)))
        (decide (x6 < (intOf v43))))
      Prog.fail
      (okK (Kd.int IntKind.i64) v43)))
    (loadT En 3 x8 (x8o + 1))) := by kernel_rfl
theorem p3_22_eq (f : Nat) (x0 : ByteArray) (x6 : Int) : p3_22 (f + 1) x0 x6 =
  (cnd
    (cnd
      (cnd
        (cnd
          (Prog.ret (Value.bool Bool.false))
          (p3_22 f x0 (IntKind.wrap IntKind.i64 (x6 + (1 : Int))))
          (Bool.not (decide ((Int.ofNat (byteAt x0 (Int.toNat x6))) = (32 : Int)))))
        Prog.fail
        (Nat.ble (Nat.succ (Int.toNat x6)) (List.length (Array.toList (ByteArray.data x0)))))
      Prog.fail
      (decide ((0 : Int) ≤ x6)))
    (Prog.call (callF En (runP En f) 10 []) fun v62 =>
      (cnd
        (Prog.ret (Value.bool (boolOf v62)))
        Prog.fail
        (okK Kd.bool v62)))
    (decide (x6 < (Int.ofNat (List.length (Array.toList (ByteArray.data x0))))))) := by kernel_rfl
theorem f3_eq (f : Nat) (x0 : ByteArray) : callF En (runP En (f + 1)) 3 [(Value.string x0)] =
  (cnd
    (Prog.call (callF En (runP En f) 10 []) fun v63 =>
      (cnd
        (Prog.ret (Value.bool (boolOf v63)))
        Prog.fail
        (okK Kd.bool v63)))
    (Prog.call (callF En (runP En f) 11 [(Value.string x0)]) fun v64 =>
      (cnd
        (Prog.call (callF En (runP En f) 12 [(Value.int IntKind.i64 (intOf (at_ (tupOf v64) 1)))]) fun v65 =>
          (cnd
            (cnd
              (cnd
                (cnd
                  (cnd
                    (Prog.call (callF En (runP En f) 10 []) fun v66 =>
                      (cnd
                        (Prog.ret (Value.bool (boolOf v66)))
                        Prog.fail
                        (okK Kd.bool v66)))
                    (Prog.ret (Value.bool Bool.false))
                    (decide ((Int.ofNat (List.length (elems (at_ (tupOf v64) 0)))) = (0 : Int))))
                  (Prog.ret (Value.bool Bool.false))
                  (decide ((intOf (at_ (tupOf v64) 2)) ≤ (Int.ofNat (List.length (Array.toList (ByteArray.data x0)))))))
                (Prog.ret (Value.bool Bool.false))
                (decide ((intOf (at_ (tupOf v64) 2)) ≥ (0 : Int))))
              (p3_8 f x0 (elems (at_ (tupOf v64) 0)) (0 : Int) (0 : Int))
              (Bool.not (decide ((intOf v65) = (0 : Int)))))
            Prog.fail
            (okK (Kd.int IntKind.i64) v65)))
        Prog.fail
        ((isTupV v64) && (okNs ((Nm.one Kd.lst) :: ((Nm.one (Kd.int IntKind.i64)) :: ((Nm.one (Kd.int IntKind.i64)) :: []))) (tupOf v64)))))
    (decide ((Int.ofNat (List.length (Array.toList (ByteArray.data x0)))) > (70000 : Int)))) := by kernel_rfl
end Go.Proofs.YtmjbmbmnnephjaaGreatDoor
/- What comes of the points of a function: printed by the tool. -/
namespace Go.Proofs.YtmjbmbmnnephjaaGreatDoor
open Go Go.Ev Go.Proofs
set_option maxRecDepth 8000
set_option linter.unusedVariables false
noncomputable def p11_4 (f : Nat) (x0 : ByteArray) (x5 : Nat) (x5o : Nat) : Prog := runP En f 11 (tmL 76 [(0, (Value.string x0)), (5, (Value.pointer (Option.some (Addr.mk x5 x5o Option.none))))]) [.code (cL (cL (cI (cI (cL (cR (cR (cR (cB 11))))))))), .code (cR (cL (cI (cI (cL (cR (cR (cR (cB 11))))))))), .code (cR (cI (cI (cL (cR (cR (cR (cB 11)))))))), .inLoop (cI (cI (cL (cR (cR (cR (cB 11))))))), .inBlock 0, .code (cR (cR (cR (cR (cB 11)))))] [] none
theorem p11_4_eq (f : Nat) (x0 : ByteArray) (x5 : Nat) (x5o : Nat) : p11_4 (f + 1) x0 x5 x5o =
  (callP (fun v3 =>
    (cnd
      (cnd
        (Prog.seg (loadT En 3 x5 ((x5o + 0) + 1)) fun v4 s5 _ =>
          (cnd
            (Prog.seg (callF En (runP En f) 32 [(Value.pointer (Option.some (Addr.mk x5 (x5o + 0) Option.none))), (Value.func (Fn.func 33) ⟨[]⟩ ⟨[]⟩)]) fun v6 s7 _ =>
              (gdL 224 (writesOf s7) s7 [⟨4, writesOf s5, s5⟩]
                (cnd
                  (Prog.seg (storeT En 3 x5 ((x5o + 0) + 1) (Value.int IntKind.i64 (IntKind.wrap IntKind.i64 ((intOf v4) + (Int.ofNat (List.length (Array.toList (ByteArray.data (strOf v6))))))))) fun v8 s9 _ =>
                    (gdL 16383 (writesOf s9) s9 [⟨8, writesOf s7, s7⟩, ⟨4, writesOf s5, s5⟩]
                      (callP (fun v10 =>
                        (cnd
                          (cnd
                            (callP (fun v11 =>
                              (frzL En 20 34 v11 fun v12 =>
                                (Prog.ret (Value.tuple ⟨(v12 :: ((Value.int IntKind.i64 (0 : Int)) :: ((Value.int IntKind.i64 (0 : Int)) :: [])))⟩))))
                              (loadT En 23 x5 (x5o + 2)))
                            (callP (fun v13 =>
                              (cnd
                                (Prog.call (callF En (runP En f) 34 [(Value.pointer (Option.some (Addr.mk x5 x5o Option.none)))]) fun v14 =>
                                  (cnd
                                    (callP (fun v15 =>
                                      (cnd
                                        (cnd
                                          (callP (fun v16 =>
                                            (callP (fun v17 =>
                                              (cnd
                                                (cnd
                                                  (Prog.call (callF En (runP En f) 35 [(Value.pointer (Option.some (Addr.mk x5 x5o Option.none))), (Value.int IntKind.i64 (6 : Int)), (Value.int IntKind.i64 (intOf v13))]) fun v18 =>
                                                    (cnd
                                                      (p11_4 f x0 x5 x5o)
                                                      Prog.fail
                                                      ((isTupV v18) && (okNs [] (tupOf v18)))))
                                                  (p11_4 f x0 x5 x5o)
                                                  (decide ((intOf v17) > (16384 : Int))))
                                                Prog.fail
                                                (okK (Kd.int IntKind.i64) v17)))
                                              (builtinA En Builtin.len (23 :: []) (v16 :: []))))
                                            (loadT En 23 x5 (x5o + 2)))
                                          (p11_4 f x0 x5 x5o)
                                          (decide ((intOf v15) = (0 : Int))))
                                        Prog.fail
                                        (okK (Kd.int IntKind.i64) v15)))
                                      (loadT En 24 x5 (x5o + 3)))
                                    Prog.fail
                                    ((isTupV v14) && (okNs [] (tupOf v14)))))
                                Prog.fail
                                (okK (Kd.int IntKind.i64) v13)))
                              (loadT En 3 x5 ((x5o + 0) + 1)))
                            (decide ((intOf v10) = (Int.ofNat (List.length (Array.toList (ByteArray.data x0)))))))
                          Prog.fail
                          (okK (Kd.int IntKind.i64) v10)))
                        (loadT En 3 x5 ((x5o + 0) + 1)))))
                  Prog.fail
                  (okK Kd.str v6))))
            Prog.fail
            (okK (Kd.int IntKind.i64) v4)))
        (Prog.seg (loadT En 24 x5 (x5o + 3)) fun v19 s20 _ =>
          (cnd
            (Prog.seg (loadT En 3 x5 (x5o + 4)) fun v21 s22 _ =>
              (gdL 112 (writesOf s22) s22 [⟨3, writesOf s20, s20⟩]
                (cnd
                  (Prog.ret (Value.tuple ⟨((lstV []) :: ((Value.int IntKind.i64 (intOf v19)) :: ((Value.int IntKind.i64 (intOf v21)) :: [])))⟩))
                  Prog.fail
                  (okK (Kd.int IntKind.i64) v21))))
            Prog.fail
            (okK (Kd.int IntKind.i64) v19)))
        (decide ((intOf v3) = (0 : Int))))
      Prog.fail
      (okK (Kd.int IntKind.i64) v3)))
    (loadT En 24 x5 (x5o + 3))) := by kernel_rfl
theorem f11_eq (f : Nat) (x0 : ByteArray) : callF En (runP En (f + 1)) 11 [(Value.string x0)] =
  (cnd
    (Prog.ret (Value.tuple ⟨((lstV []) :: ((Value.int IntKind.i64 (1 : Int)) :: ((Value.int IntKind.i64 (0 : Int)) :: [])))⟩))
    (gd Bool.true
      (gd Bool.true
        (gd Bool.true
          (callP (fun v24 =>
            (cnd
              (p11_4 f x0 (blkOf v24) (offOf v24))
              Prog.fail
              (isPt v24)))
            (Prog.newH (Hdr.mk 5 60 Bool.false Bool.true Bool.true 0 Bool.false Bool.false []) ((Value.string x0) :: ((Value.int IntKind.i64 (0 : Int)) :: ((Value.slice Option.none 0 0) :: ((Value.int IntKind.i64 (0 : Int)) :: ((Value.int IntKind.i64 (0 : Int)) :: []))))) (fun z23 => (Prog.ret (itP z23))))))))
    (decide ((Int.ofNat (List.length (Array.toList (ByteArray.data x0)))) > (65536 : Int)))) := by kernel_rfl
end Go.Proofs.YtmjbmbmnnephjaaGreatDoor
/- What comes of the points of a function: printed by the tool. -/
namespace Go.Proofs.YtmjbmbmnnephjaaGreatDoor
open Go Go.Ev Go.Proofs
set_option maxRecDepth 8000
set_option linter.unusedVariables false
theorem f12_eq (f : Nat) (x0 : Int) : callF En (runP En (f + 1)) 12 [(Value.int IntKind.i64 x0)] =
  (Prog.ret (Value.int IntKind.i64 x0)) := by kernel_rfl
end Go.Proofs.YtmjbmbmnnephjaaGreatDoor
/- What comes of the points of a function: printed by the tool. -/
namespace Go.Proofs.YtmjbmbmnnephjaaGreatDoor
open Go Go.Ev Go.Proofs
set_option maxRecDepth 8000
set_option linter.unusedVariables false
theorem f13_eq (f : Nat) (x0_0 : Int) (x0_1 : List Value) (x0_2 : List Value) (x0_3 : List Value) : callF En (runP En (f + 1)) 13 [(Value.agg ⟨((Value.int IntKind.i64 x0_0) :: ((lstV x0_1) :: ((lstV x0_2) :: ((lstV x0_3) :: []))))⟩)] =
  (gd Bool.true
    (callP (fun v8 =>
      (cnd
        (callP (fun v9 =>
          (cnd
            (Prog.call (callF En (runP En f) 36 [(Value.agg ⟨((Value.int IntKind.i64 (intOf (at_ (aggOf v9) 0))) :: ((lstV (elems (at_ (aggOf v9) 1))) :: ((lstV (elems (at_ (aggOf v9) 2))) :: ((lstV (elems (at_ (aggOf v9) 3))) :: []))))⟩), (Value.int IntKind.i64 (1048576 : Int))]) fun v10 =>
              (cnd
                (cnd
                  (callP (fun v11 =>
                    (cnd
                      (Prog.call (callF En (runP En f) 37 [(Value.agg ⟨((Value.int IntKind.i64 (intOf (at_ (aggOf v11) 0))) :: ((lstV (elems (at_ (aggOf v11) 1))) :: ((lstV (elems (at_ (aggOf v11) 2))) :: ((lstV (elems (at_ (aggOf v11) 3))) :: []))))⟩)]) fun v12 =>
                        (cnd
                          (cnd
                            (Prog.ret (Value.int IntKind.i64 (6 : Int)))
                            (Prog.ret (Value.int IntKind.i64 (intOf v10)))
                            (decide ((intOf v12) > (32 : Int))))
                          Prog.fail
                          (okK (Kd.int IntKind.i64) v12)))
                      Prog.fail
                      ((isAggV v11) && (okKs ((Kd.int IntKind.i64) :: (Kd.lst :: (Kd.lst :: (Kd.lst :: [])))) (aggOf v11)))))
                    (loadT En 32 (blkOf v8) (offOf v8)))
                  (Prog.ret (Value.int IntKind.i64 (intOf v10)))
                  (decide ((intOf v10) = (0 : Int))))
                Prog.fail
                (okK (Kd.int IntKind.i64) v10)))
            Prog.fail
            ((isAggV v9) && (okKs ((Kd.int IntKind.i64) :: (Kd.lst :: (Kd.lst :: (Kd.lst :: [])))) (aggOf v9)))))
          (loadT En 32 (blkOf v8) (offOf v8)))
        Prog.fail
        (isPt v8)))
      (Prog.newH (Hdr.mk 4 32 Bool.false Bool.true Bool.true 0 Bool.false Bool.false []) ((Value.int IntKind.i64 x0_0) :: ((lstV x0_1) :: ((lstV x0_2) :: ((lstV x0_3) :: [])))) (fun z7 => (Prog.ret (itP z7)))))) := by kernel_rfl
end Go.Proofs.YtmjbmbmnnephjaaGreatDoor
/- What comes of the points of a function: printed by the tool. -/
namespace Go.Proofs.YtmjbmbmnnephjaaGreatDoor
open Go Go.Ev Go.Proofs
set_option maxRecDepth 8000
set_option linter.unusedVariables false
theorem f14_eq (f : Nat) (x0_0 : Int) (x0_1 : List Value) (x0_2 : List Value) (x0_3 : List Value) : callF En (runP En (f + 1)) 14 [(Value.agg ⟨((Value.int IntKind.i64 x0_0) :: ((lstV x0_1) :: ((lstV x0_2) :: ((lstV x0_3) :: []))))⟩)] =
  (gd Bool.true
    (callP (fun v6 =>
      (cnd
        (callP (fun v7 =>
          (cnd
            (cnd
              (callP (fun v8 =>
                (cnd
                  (Prog.ret (Value.bool (decide ((intOf v8) ≥ (-5 : Int)))))
                  Prog.fail
                  (okK (Kd.int IntKind.i64) v8)))
                (loadT En 3 (blkOf v6) ((offOf v6) + 0)))
              (Prog.ret (Value.bool Bool.false))
              (decide ((intOf v7) < (0 : Int))))
            Prog.fail
            (okK (Kd.int IntKind.i64) v7)))
          (loadT En 3 (blkOf v6) ((offOf v6) + 0)))
        Prog.fail
        (isPt v6)))
      (Prog.newH (Hdr.mk 4 32 Bool.false Bool.true Bool.true 0 Bool.false Bool.false []) ((Value.int IntKind.i64 x0_0) :: ((lstV x0_1) :: ((lstV x0_2) :: ((lstV x0_3) :: [])))) (fun z5 => (Prog.ret (itP z5)))))) := by kernel_rfl
end Go.Proofs.YtmjbmbmnnephjaaGreatDoor
/- What comes of the points of a function: printed by the tool. -/
namespace Go.Proofs.YtmjbmbmnnephjaaGreatDoor
open Go Go.Ev Go.Proofs
set_option maxRecDepth 8000
set_option linter.unusedVariables false
theorem f15_eq (f : Nat) (x0_0 : Int) (x0_1 : List Value) (x0_2 : List Value) (x0_3 : List Value) : callF En (runP En (f + 1)) 15 [(Value.agg ⟨((Value.int IntKind.i64 x0_0) :: ((lstV x0_1) :: ((lstV x0_2) :: ((lstV x0_3) :: []))))⟩)] =
  (gd Bool.true
    (callP (fun v6 =>
      (cnd
        (callP (fun v7 =>
          (cnd
            (cnd
              (callP (fun v8 =>
                (cnd
                  (Prog.ret (Value.bool (decide ((intOf v8) ≤ (5 : Int)))))
                  Prog.fail
                  (okK (Kd.int IntKind.i64) v8)))
                (loadT En 3 (blkOf v6) ((offOf v6) + 0)))
              (Prog.ret (Value.bool Bool.false))
              (decide ((intOf v7) ≥ (1 : Int))))
            Prog.fail
            (okK (Kd.int IntKind.i64) v7)))
          (loadT En 3 (blkOf v6) ((offOf v6) + 0)))
        Prog.fail
        (isPt v6)))
      (Prog.newH (Hdr.mk 4 32 Bool.false Bool.true Bool.true 0 Bool.false Bool.false []) ((Value.int IntKind.i64 x0_0) :: ((lstV x0_1) :: ((lstV x0_2) :: ((lstV x0_3) :: [])))) (fun z5 => (Prog.ret (itP z5)))))) := by kernel_rfl
end Go.Proofs.YtmjbmbmnnephjaaGreatDoor
/- What comes of the points of a function: printed by the tool. -/
namespace Go.Proofs.YtmjbmbmnnephjaaGreatDoor
open Go Go.Ev Go.Proofs
set_option maxRecDepth 8000
set_option linter.unusedVariables false
theorem f16_eq (f : Nat) (x0_0 : Int) (x0_1 : List Value) (x0_2 : List Value) (x0_3 : List Value) : callF En (runP En (f + 1)) 16 [(Value.agg ⟨((Value.int IntKind.i64 x0_0) :: ((lstV x0_1) :: ((lstV x0_2) :: ((lstV x0_3) :: []))))⟩)] =
  (gd Bool.true
    (callP (fun v19 =>
      (cnd
        (callP (fun v20 =>
          (cnd
            (cnd
              (callP (fun v21 =>
                (cnd
                  (Prog.ret (Value.int IntKind.i64 (Int.ofNat (List.length (elems v21)))))
                  Prog.fail
                  (isLst v21)))
                (loadT En 29 (blkOf v19) ((offOf v19) + 2)))
              (callP (fun v22 =>
                (cnd
                  (Prog.call (callF En (runP En f) 15 [(Value.agg ⟨((Value.int IntKind.i64 (intOf (at_ (aggOf v22) 0))) :: ((lstV (elems (at_ (aggOf v22) 1))) :: ((lstV (elems (at_ (aggOf v22) 2))) :: ((lstV (elems (at_ (aggOf v22) 3))) :: []))))⟩)]) fun v23 =>
                    (cnd
                      (cnd
                        (callP (fun v24 =>
                          (cnd
                            (Prog.ret (Value.int IntKind.i64 (Int.ofNat (List.length (elems v24)))))
                            Prog.fail
                            (isLst v24)))
                          (loadT En 28 (blkOf v19) ((offOf v19) + 1)))
                        (callP (fun v25 =>
                          (cnd
                            (cnd
                              (callP (fun v26 =>
                                (cnd
                                  (Prog.ret (Value.int IntKind.i64 (Int.ofNat (List.length (elems v26)))))
                                  Prog.fail
                                  (isLst v26)))
                                (loadT En 30 (blkOf v19) ((offOf v19) + 3)))
                              (callP (fun v27 =>
                                (cnd
                                  (cnd
                                    (callP (fun v28 =>
                                      (cnd
                                        (cnd
                                          (callP (fun v29 =>
                                            (cnd
                                              (cnd
                                                (cnd
                                                  (cnd
                                                    (Prog.call (callF En (runP En f) 16 [(Value.agg ⟨((Value.int IntKind.i64 (intOf (at_ (List.take 4 (Array.toList (Value.cells (at_ (elems v29) 0)))) 0))) :: ((lstV (elems (at_ (List.take 4 (Array.toList (Value.cells (at_ (elems v29) 0)))) 1))) :: ((lstV (elems (at_ (List.take 4 (Array.toList (Value.cells (at_ (elems v29) 0)))) 2))) :: ((lstV (elems (at_ (List.take 4 (Array.toList (Value.cells (at_ (elems v29) 0)))) 3))) :: []))))⟩)]) fun v30 =>
                                                      (cnd
                                                        (Prog.ret (Value.int IntKind.i64 (intOf v30)))
                                                        Prog.fail
                                                        (okK (Kd.int IntKind.i64) v30)))
                                                    Prog.fail
                                                    (okKs ((Kd.int IntKind.i64) :: (Kd.lst :: (Kd.lst :: (Kd.lst :: [])))) (List.take 4 (Array.toList (Value.cells (at_ (elems v29) 0))))))
                                                  Prog.fail
                                                  (Nat.ble 4 (List.length (Array.toList (Value.cells (at_ (elems v29) 0))))))
                                                Prog.fail
                                                (((Nat.ble 1 (List.length (elems v29))) && Bool.true) && (hdOk 4 (elems v29))))
                                              Prog.fail
                                              (isLst v29)))
                                            (loadT En 30 (blkOf v19) ((offOf v19) + 3)))
                                          (Prog.ret (Value.int IntKind.i64 (1 : Int)))
                                          (decide ((Int.ofNat (List.length (elems v28))) > (0 : Int))))
                                        Prog.fail
                                        (isLst v28)))
                                      (loadT En 30 (blkOf v19) ((offOf v19) + 3)))
                                    (callP (fun v31 =>
                                      (cnd
                                        (cnd
                                          (callP (fun v32 =>
                                            (cnd
                                              (cnd
                                                (callP (fun v33 =>
                                                  (cnd
                                                    (cnd
                                                      (cnd
                                                        (cnd
                                                          (Prog.call (callF En (runP En f) 16 [(Value.agg ⟨((Value.int IntKind.i64 (intOf (at_ (List.take 4 (Array.toList (Value.cells (at_ (elems v33) 0)))) 0))) :: ((lstV (elems (at_ (List.take 4 (Array.toList (Value.cells (at_ (elems v33) 0)))) 1))) :: ((lstV (elems (at_ (List.take 4 (Array.toList (Value.cells (at_ (elems v33) 0)))) 2))) :: ((lstV (elems (at_ (List.take 4 (Array.toList (Value.cells (at_ (elems v33) 0)))) 3))) :: []))))⟩)]) fun v34 =>
                                                            (cnd
                                                              (Prog.ret (Value.int IntKind.i64 (intOf v34)))
                                                              Prog.fail
                                                              (okK (Kd.int IntKind.i64) v34)))
                                                          Prog.fail
                                                          (okKs ((Kd.int IntKind.i64) :: (Kd.lst :: (Kd.lst :: (Kd.lst :: [])))) (List.take 4 (Array.toList (Value.cells (at_ (elems v33) 0))))))
                                                        Prog.fail
                                                        (Nat.ble 4 (List.length (Array.toList (Value.cells (at_ (elems v33) 0))))))
                                                      Prog.fail
                                                      (((Nat.ble 1 (List.length (elems v33))) && Bool.true) && (hdOk 4 (elems v33))))
                                                    Prog.fail
                                                    (isLst v33)))
                                                  (loadT En 30 (blkOf v19) ((offOf v19) + 3)))
                                                (Prog.ret (Value.int IntKind.i64 (1 : Int)))
                                                (decide ((Int.ofNat (List.length (elems v32))) > (0 : Int))))
                                              Prog.fail
                                              (isLst v32)))
                                            (loadT En 30 (blkOf v19) ((offOf v19) + 3)))
                                          (Prog.ret (Value.int IntKind.i64 (1 : Int)))
                                          (decide ((intOf v31) = (99 : Int))))
                                        Prog.fail
                                        (okK (Kd.int IntKind.i64) v31)))
                                      (loadT En 3 (blkOf v19) ((offOf v19) + 0)))
                                    (decide ((intOf v27) = (98 : Int))))
                                  Prog.fail
                                  (okK (Kd.int IntKind.i64) v27)))
                                (loadT En 3 (blkOf v19) ((offOf v19) + 0)))
                              (decide ((intOf v25) = (0 : Int))))
                            Prog.fail
                            (okK (Kd.int IntKind.i64) v25)))
                          (loadT En 3 (blkOf v19) ((offOf v19) + 0)))
                        (boolOf v23))
                      Prog.fail
                      (okK Kd.bool v23)))
                  Prog.fail
                  ((isAggV v22) && (okKs ((Kd.int IntKind.i64) :: (Kd.lst :: (Kd.lst :: (Kd.lst :: [])))) (aggOf v22)))))
                (loadT En 32 (blkOf v19) (offOf v19)))
              (decide ((intOf v20) = (3 : Int))))
            Prog.fail
            (okK (Kd.int IntKind.i64) v20)))
          (loadT En 3 (blkOf v19) ((offOf v19) + 0)))
        Prog.fail
        (isPt v19)))
      (Prog.newH (Hdr.mk 4 32 Bool.false Bool.true Bool.true 0 Bool.false Bool.false []) ((Value.int IntKind.i64 x0_0) :: ((lstV x0_1) :: ((lstV x0_2) :: ((lstV x0_3) :: [])))) (fun z18 => (Prog.ret (itP z18)))))) := by kernel_rfl
end Go.Proofs.YtmjbmbmnnephjaaGreatDoor
/- What comes of the points of a function: printed by the tool. -/
namespace Go.Proofs.YtmjbmbmnnephjaaGreatDoor
open Go Go.Ev Go.Proofs
set_option maxRecDepth 8000
set_option linter.unusedVariables false
noncomputable def p32_2 (f : Nat) (x0 : Nat) (x1 : Nat) (x5 : Int) : Prog := runP En f 32 (tmL 50 [(0, (Value.pointer (Option.some (Addr.mk x0 0 Option.none)))), (1, (Value.func (Fn.func x1) ⟨[]⟩ ⟨[]⟩)), (5, (Value.int IntKind.i64 x5))]) [.code (cL (cL (cI (cI (cL (cR (cR (cB 32)))))))), .code (cR (cL (cI (cI (cL (cR (cR (cB 32)))))))), .code (cR (cI (cI (cL (cR (cR (cB 32))))))), .inLoop (cI (cI (cL (cR (cR (cB 32)))))), .inBlock 0, .code (cR (cR (cR (cB 32))))] [] none
theorem p32_2_eq (f : Nat) (x0 : Nat) (x1 : Nat) (x5 : Int) : p32_2 (f + 1) x0 x1 x5 =
  (Prog.seg (loadT En 3 x0 1) fun v1 s2 _ =>
    (cnd
      (Prog.seg (loadT En 9 x0 0) fun v3 s4 _ =>
        (gdL 448 (writesOf s4) s4 [⟨3, writesOf s2, s2⟩]
          (cnd
            (cnd
              (Prog.seg (loadT En 9 x0 0) fun v5 s6 _ =>
                (gdL 122879 (writesOf s6) s6 [⟨9, writesOf s4, s4⟩, ⟨3, writesOf s2, s2⟩]
                  (cnd
                    (Prog.seg (loadT En 3 x0 1) fun v7 s8 _ =>
                      (gdL 1843199 (writesOf s8) s8 [⟨17, writesOf s6, s6⟩, ⟨9, writesOf s4, s4⟩, ⟨3, writesOf s2, s2⟩]
                        (cnd
                          (cnd
                            (cnd
                              (Prog.seg (callF En (runP En f) x1 ((Value.int IntKind.u8 (Int.ofNat (byteAt (strOf v5) (Int.toNat (IntKind.wrap IntKind.i64 ((intOf v7) + x5)))))) :: [])) fun v9 s10 _ =>
                                (gdL 33554431 (writesOf s10) s10 [⟨21, writesOf s8, s8⟩, ⟨17, writesOf s6, s6⟩, ⟨9, writesOf s4, s4⟩, ⟨3, writesOf s2, s2⟩]
                                  (cnd
                                    (cnd
                                      (p32_2 f x0 x1 (IntKind.wrap IntKind.i64 (x5 + (1 : Int))))
                                      (Prog.seg (loadT En 9 x0 0) fun v11 s12 _ =>
                                        (cnd
                                          (Prog.seg (loadT En 3 x0 1) fun v13 s14 _ =>
                                            (gdL 112 (writesOf s14) s14 [⟨3, writesOf s12, s12⟩]
                                              (cnd
                                                (Prog.seg (loadT En 3 x0 1) fun v15 s16 _ =>
                                                  (gdL 1792 (writesOf s16) s16 [⟨7, writesOf s14, s14⟩, ⟨3, writesOf s12, s12⟩]
                                                    (cnd
                                                      (cnd
                                                        (cnd
                                                          (cnd
                                                            (Prog.ret (Value.string (mkStr (List.take ((Int.toNat (IntKind.wrap IntKind.i64 ((intOf v15) + x5))) - (Int.toNat (intOf v13))) (List.drop (Int.toNat (intOf v13)) (Array.toList (ByteArray.data (strOf v11))))))))
                                                            Prog.fail
                                                            ((Nat.ble (Int.toNat (intOf v13)) (Int.toNat (IntKind.wrap IntKind.i64 ((intOf v15) + x5)))) && (Nat.ble (Int.toNat (IntKind.wrap IntKind.i64 ((intOf v15) + x5))) (List.length (Array.toList (ByteArray.data (strOf v11)))))))
                                                          Prog.fail
                                                          (decide ((0 : Int) ≤ (IntKind.wrap IntKind.i64 ((intOf v15) + x5)))))
                                                        Prog.fail
                                                        (decide ((0 : Int) ≤ (intOf v13))))
                                                      Prog.fail
                                                      (okK (Kd.int IntKind.i64) v15))))
                                                Prog.fail
                                                (okK (Kd.int IntKind.i64) v13))))
                                          Prog.fail
                                          (okK Kd.str v11)))
                                      (boolOf v9))
                                    Prog.fail
                                    (okK Kd.bool v9))))
                              Prog.fail
                              (Nat.ble (Nat.succ (Int.toNat (IntKind.wrap IntKind.i64 ((intOf v7) + x5)))) (List.length (Array.toList (ByteArray.data (strOf v5))))))
                            Prog.fail
                            (decide ((0 : Int) ≤ (IntKind.wrap IntKind.i64 ((intOf v7) + x5)))))
                          Prog.fail
                          (okK (Kd.int IntKind.i64) v7))))
                    Prog.fail
                    (okK Kd.str v5))))
              (Prog.seg (loadT En 9 x0 0) fun v17 s18 _ =>
                (cnd
                  (Prog.seg (loadT En 3 x0 1) fun v19 s20 _ =>
                    (gdL 112 (writesOf s20) s20 [⟨3, writesOf s18, s18⟩]
                      (cnd
                        (Prog.seg (loadT En 3 x0 1) fun v21 s22 _ =>
                          (gdL 1792 (writesOf s22) s22 [⟨7, writesOf s20, s20⟩, ⟨3, writesOf s18, s18⟩]
                            (cnd
                              (cnd
                                (cnd
                                  (cnd
                                    (Prog.ret (Value.string (mkStr (List.take ((Int.toNat (IntKind.wrap IntKind.i64 ((intOf v21) + x5))) - (Int.toNat (intOf v19))) (List.drop (Int.toNat (intOf v19)) (Array.toList (ByteArray.data (strOf v17))))))))
                                    Prog.fail
                                    ((Nat.ble (Int.toNat (intOf v19)) (Int.toNat (IntKind.wrap IntKind.i64 ((intOf v21) + x5)))) && (Nat.ble (Int.toNat (IntKind.wrap IntKind.i64 ((intOf v21) + x5))) (List.length (Array.toList (ByteArray.data (strOf v17)))))))
                                  Prog.fail
                                  (decide ((0 : Int) ≤ (IntKind.wrap IntKind.i64 ((intOf v21) + x5)))))
                                Prog.fail
                                (decide ((0 : Int) ≤ (intOf v19))))
                              Prog.fail
                              (okK (Kd.int IntKind.i64) v21))))
                        Prog.fail
                        (okK (Kd.int IntKind.i64) v19))))
                  Prog.fail
                  (okK Kd.str v17)))
              (decide ((IntKind.wrap IntKind.i64 ((intOf v1) + x5)) < (Int.ofNat (List.length (Array.toList (ByteArray.data (strOf v3))))))))
            Prog.fail
            (okK Kd.str v3))))
      Prog.fail
      (okK (Kd.int IntKind.i64) v1))) := by kernel_rfl
theorem f32_eq (f : Nat) (x0 : Nat) (x1 : Nat) : callF En (runP En (f + 1)) 32 [(Value.pointer (Option.some (Addr.mk x0 0 Option.none))), (Value.func (Fn.func x1) ⟨[]⟩ ⟨[]⟩)] =
  (p32_2 f x0 x1 (0 : Int)) := by kernel_rfl
end Go.Proofs.YtmjbmbmnnephjaaGreatDoor
/- What comes of the points of a function: printed by the tool. -/
namespace Go.Proofs.YtmjbmbmnnephjaaGreatDoor
open Go Go.Ev Go.Proofs
set_option maxRecDepth 8000
set_option linter.unusedVariables false
theorem f33_eq (f : Nat) (x0 : Int) : callF En (runP En (f + 1)) 33 [(Value.int IntKind.u8 x0)] =
  (Prog.ret (Value.bool (decide (x0 = (32 : Int))))) := by kernel_rfl
end Go.Proofs.YtmjbmbmnnephjaaGreatDoor
/- What comes of the points of a function: printed by the tool. -/
namespace Go.Proofs.YtmjbmbmnnephjaaGreatDoor
open Go Go.Ev Go.Proofs
set_option maxRecDepth 8000
set_option linter.unusedVariables false
noncomputable def p34_21 (f : Nat) (x0 : Nat) (x2 : Int) : Prog := runP En f 34 (tmL 161 [(0, (Value.pointer (Option.some (Addr.mk x0 0 Option.none)))), (2, (Value.int IntKind.i64 x2))]) [.code (cR (cR (cL (cR (cR (cR (cR (cR (cR (cR (cR (cR (cR (cR (cI (cR (cB 34))))))))))))))))), .inBlock 0] [] none
theorem p34_21_eq (f : Nat) (x0 : Nat) (x2 : Int) : p34_21 (f + 1) x0 x2 =
  (Prog.seg (loadT En 9 x0 0) fun v60 s61 _ =>
    (cnd
      (Prog.seg (loadT En 3 x0 1) fun v62 s63 _ =>
        (gdL 3840 (writesOf s63) s63 [⟨6, writesOf s61, s61⟩]
          (cnd
            (cnd
              (cnd
                (cnd
                  (gd Bool.true
                    (Prog.seg (callF En (runP En f) 63 [(Value.pointer (Option.some (Addr.mk x0 0 Option.none))), (Value.int IntKind.i64 (5 : Int)), (Value.int IntKind.i64 x2), (Value.string (mkStr (List.take ((Int.toNat (intOf v62)) - (Int.toNat x2)) (List.drop (Int.toNat x2) (Array.toList (ByteArray.data (strOf v60))))))), (Value.agg ⟨((Value.int IntKind.i64 (0 : Int)) :: ((lstV []) :: ((lstV []) :: ((lstV []) :: []))))⟩)]) fun v64 s65 _ =>
                      (gdL 32767 (writesOf s65) s65 [⟨12, writesOf s63, s63⟩, ⟨6, writesOf s61, s61⟩]
                        (cnd
                          (Prog.ret (Value.tuple ⟨[]⟩))
                          Prog.fail
                          ((isTupV v64) && (okNs [] (tupOf v64)))))))
                  Prog.fail
                  ((Nat.ble (Int.toNat x2) (Int.toNat (intOf v62))) && (Nat.ble (Int.toNat (intOf v62)) (List.length (Array.toList (ByteArray.data (strOf v60)))))))
                Prog.fail
                (decide ((0 : Int) ≤ (intOf v62))))
              Prog.fail
              (decide ((0 : Int) ≤ x2)))
            Prog.fail
            (okK (Kd.int IntKind.i64) v62))))
      Prog.fail
      (okK Kd.str v60))) := by kernel_rfl
theorem f34_eq (f : Nat) (x0 : Nat) : callF En (runP En (f + 1)) 34 [(Value.pointer (Option.some (Addr.mk x0 0 Option.none)))] =
  (Prog.seg (loadT En 3 x0 1) fun v66 s67 _ =>
    (cnd
      (Prog.seg (callF En (runP En f) 59 [(Value.pointer (Option.some (Addr.mk x0 0 Option.none))), (Value.int IntKind.i64 (0 : Int))]) fun v68 s69 _ =>
        (gdL 224 (writesOf s69) s69 [⟨4, writesOf s67, s67⟩]
          (cnd
            (Prog.call (callF En (runP En f) 60 [(Value.int IntKind.u8 (intOf v68))]) fun v70 =>
              (cnd
                (cnd
                  (Prog.call (callF En (runP En f) 62 [(Value.pointer (Option.some (Addr.mk x0 0 Option.none)))]) fun v71 =>
                    (cnd
                      (Prog.ret (Value.tuple ⟨[]⟩))
                      Prog.fail
                      ((isTupV v71) && (okNs [] (tupOf v71)))))
                  (Prog.call (callF En (runP En f) 61 [(Value.pointer (Option.some (Addr.mk x0 0 Option.none)))]) fun v72 =>
                    (cnd
                      (cnd
                        (Prog.call (callF En (runP En f) 62 [(Value.pointer (Option.some (Addr.mk x0 0 Option.none)))]) fun v73 =>
                          (cnd
                            (Prog.ret (Value.tuple ⟨[]⟩))
                            Prog.fail
                            ((isTupV v73) && (okNs [] (tupOf v73)))))
                        (Prog.call (callF En (runP En f) 44 [(Value.int IntKind.u8 (intOf v68))]) fun v74 =>
                          (cnd
                            (cnd
                              (Prog.call (callF En (runP En f) 32 [(Value.pointer (Option.some (Addr.mk x0 0 Option.none))), (Value.func (Fn.func 43) ⟨[]⟩ ⟨[]⟩)]) fun v75 =>
                                (cnd
                                  (callP (fun v76 =>
                                    (cnd
                                      (callP (fun v77 =>
                                        (gd Bool.true
                                          (Prog.call (callF En (runP En f) 63 [(Value.pointer (Option.some (Addr.mk x0 0 Option.none))), (Value.int IntKind.i64 (2 : Int)), (Value.int IntKind.i64 (intOf v66)), (Value.string (strOf v75)), (Value.agg ⟨((Value.int IntKind.i64 (0 : Int)) :: ((lstV []) :: ((lstV []) :: ((lstV []) :: []))))⟩)]) fun v78 =>
                                            (cnd
                                              (Prog.ret (Value.tuple ⟨[]⟩))
                                              Prog.fail
                                              ((isTupV v78) && (okNs [] (tupOf v78)))))))
                                        (storeT En 3 x0 1 (Value.int IntKind.i64 (IntKind.wrap IntKind.i64 ((intOf v76) + (Int.ofNat (List.length (Array.toList (ByteArray.data (strOf v75))))))))))
                                      Prog.fail
                                      (okK (Kd.int IntKind.i64) v76)))
                                    (loadT En 3 x0 1))
                                  Prog.fail
                                  (okK Kd.str v75)))
                              (cnd
                                (Prog.call (callF En (runP En f) 64 [(Value.pointer (Option.some (Addr.mk x0 0 Option.none)))]) fun v79 =>
                                  (cnd
                                    (Prog.ret (Value.tuple ⟨[]⟩))
                                    Prog.fail
                                    ((isTupV v79) && (okNs [] (tupOf v79)))))
                                (cnd
                                  (Prog.call (callF En (runP En f) 65 [(Value.pointer (Option.some (Addr.mk x0 0 Option.none))), (Value.int IntKind.i64 (0 : Int))]) fun v80 =>
                                    (cnd
                                      (callP (fun v81 =>
                                        (cnd
                                          (callP (fun v82 =>
                                            (gd Bool.true
                                              (Prog.call (callF En (runP En f) 63 [(Value.pointer (Option.some (Addr.mk x0 0 Option.none))), (Value.int IntKind.i64 (3 : Int)), (Value.int IntKind.i64 (intOf v66)), (Value.string (strOf (at_ (tupOf v80) 0))), (Value.agg ⟨((Value.int IntKind.i64 (0 : Int)) :: ((lstV []) :: ((lstV []) :: ((lstV []) :: []))))⟩)]) fun v83 =>
                                                (cnd
                                                  (Prog.ret (Value.tuple ⟨[]⟩))
                                                  Prog.fail
                                                  ((isTupV v83) && (okNs [] (tupOf v83)))))))
                                            (storeT En 3 x0 1 (Value.int IntKind.i64 (IntKind.wrap IntKind.i64 ((intOf v81) + (intOf (at_ (tupOf v80) 1)))))))
                                          Prog.fail
                                          (okK (Kd.int IntKind.i64) v81)))
                                        (loadT En 3 x0 1))
                                      Prog.fail
                                      ((isTupV v80) && (okNs ((Nm.one Kd.str) :: ((Nm.one (Kd.int IntKind.i64)) :: [])) (tupOf v80)))))
                                  (cnd
                                    (Prog.call (callF En (runP En f) 66 [(Value.string (mkStr [43, 45, 42, 37, 33, 38, 124, 60, 62, 61, 126, 44, 94, 35, 95, 63, 64, 36, 46])), (Value.int IntKind.u8 (intOf v68))]) fun v84 =>
                                      (cnd
                                        (cnd
                                          (callP (fun v85 =>
                                            (cnd
                                              (callP (fun v86 =>
                                                (Prog.seg (loadT En 9 x0 0) fun v87 s88 _ =>
                                                  (cnd
                                                    (Prog.seg (loadT En 3 x0 1) fun v89 s90 _ =>
                                                      (gdL 3840 (writesOf s90) s90 [⟨6, writesOf s88, s88⟩]
                                                        (cnd
                                                          (cnd
                                                            (cnd
                                                              (cnd
                                                                (gd Bool.true
                                                                  (Prog.seg (callF En (runP En f) 63 [(Value.pointer (Option.some (Addr.mk x0 0 Option.none))), (Value.int IntKind.i64 (4 : Int)), (Value.int IntKind.i64 (intOf v66)), (Value.string (mkStr (List.take ((Int.toNat (intOf v89)) - (Int.toNat (intOf v66))) (List.drop (Int.toNat (intOf v66)) (Array.toList (ByteArray.data (strOf v87))))))), (Value.agg ⟨((Value.int IntKind.i64 (0 : Int)) :: ((lstV []) :: ((lstV []) :: ((lstV []) :: []))))⟩)]) fun v91 s92 _ =>
                                                                    (gdL 32767 (writesOf s92) s92 [⟨12, writesOf s90, s90⟩, ⟨6, writesOf s88, s88⟩]
                                                                      (cnd
                                                                        (Prog.ret (Value.tuple ⟨[]⟩))
                                                                        Prog.fail
                                                                        ((isTupV v91) && (okNs [] (tupOf v91)))))))
                                                                Prog.fail
                                                                ((Nat.ble (Int.toNat (intOf v66)) (Int.toNat (intOf v89))) && (Nat.ble (Int.toNat (intOf v89)) (List.length (Array.toList (ByteArray.data (strOf v87)))))))
                                                              Prog.fail
                                                              (decide ((0 : Int) ≤ (intOf v89))))
                                                            Prog.fail
                                                            (decide ((0 : Int) ≤ (intOf v66))))
                                                          Prog.fail
                                                          (okK (Kd.int IntKind.i64) v89))))
                                                    Prog.fail
                                                    (okK Kd.str v87))))
                                                (storeT En 3 x0 1 (Value.int IntKind.i64 (IntKind.wrap IntKind.i64 ((intOf v85) + (1 : Int))))))
                                              Prog.fail
                                              (okK (Kd.int IntKind.i64) v85)))
                                            (loadT En 3 x0 1))
                                          (cnd
                                            (callP (fun v93 =>
                                              (cnd
                                                (callP (fun v94 =>
                                                  (Prog.call (callF En (runP En f) 59 [(Value.pointer (Option.some (Addr.mk x0 0 Option.none))), (Value.int IntKind.i64 (0 : Int))]) fun v95 =>
                                                    (cnd
                                                      (cnd
                                                        (callP (fun v96 =>
                                                          (cnd
                                                            (callP (fun v97 =>
                                                              (p34_21 f x0 (intOf v66)))
                                                              (storeT En 3 x0 1 (Value.int IntKind.i64 (IntKind.wrap IntKind.i64 ((intOf v96) + (1 : Int))))))
                                                            Prog.fail
                                                            (okK (Kd.int IntKind.i64) v96)))
                                                          (loadT En 3 x0 1))
                                                        (p34_21 f x0 (intOf v66))
                                                        (decide ((intOf v95) = (58 : Int))))
                                                      Prog.fail
                                                      (okK (Kd.int IntKind.u8) v95))))
                                                  (storeT En 3 x0 1 (Value.int IntKind.i64 (IntKind.wrap IntKind.i64 ((intOf v93) + (1 : Int))))))
                                                Prog.fail
                                                (okK (Kd.int IntKind.i64) v93)))
                                              (loadT En 3 x0 1))
                                            (cnd
                                              (callP (fun v98 =>
                                                (cnd
                                                  (callP (fun v99 =>
                                                    (Prog.call (callF En (runP En f) 59 [(Value.pointer (Option.some (Addr.mk x0 0 Option.none))), (Value.int IntKind.i64 (0 : Int))]) fun v100 =>
                                                      (cnd
                                                        (cnd
                                                          (callP (fun v101 =>
                                                            (cnd
                                                              (callP (fun v102 =>
                                                                (p34_21 f x0 (intOf v66)))
                                                                (storeT En 3 x0 1 (Value.int IntKind.i64 (IntKind.wrap IntKind.i64 ((intOf v101) + (1 : Int))))))
                                                              Prog.fail
                                                              (okK (Kd.int IntKind.i64) v101)))
                                                            (loadT En 3 x0 1))
                                                          (p34_21 f x0 (intOf v66))
                                                          (decide ((intOf v100) = (58 : Int))))
                                                        Prog.fail
                                                        (okK (Kd.int IntKind.u8) v100))))
                                                    (storeT En 3 x0 1 (Value.int IntKind.i64 (IntKind.wrap IntKind.i64 ((intOf v98) + (1 : Int))))))
                                                  Prog.fail
                                                  (okK (Kd.int IntKind.i64) v98)))
                                                (loadT En 3 x0 1))
                                              (cnd
                                                (callP (fun v103 =>
                                                  (cnd
                                                    (callP (fun v104 =>
                                                      (Prog.call (callF En (runP En f) 59 [(Value.pointer (Option.some (Addr.mk x0 0 Option.none))), (Value.int IntKind.i64 (0 : Int))]) fun v105 =>
                                                        (cnd
                                                          (cnd
                                                            (callP (fun v106 =>
                                                              (cnd
                                                                (callP (fun v107 =>
                                                                  (p34_21 f x0 (intOf v66)))
                                                                  (storeT En 3 x0 1 (Value.int IntKind.i64 (IntKind.wrap IntKind.i64 ((intOf v106) + (1 : Int))))))
                                                                Prog.fail
                                                                (okK (Kd.int IntKind.i64) v106)))
                                                              (loadT En 3 x0 1))
                                                            (p34_21 f x0 (intOf v66))
                                                            (decide ((intOf v105) = (58 : Int))))
                                                          Prog.fail
                                                          (okK (Kd.int IntKind.u8) v105))))
                                                      (storeT En 3 x0 1 (Value.int IntKind.i64 (IntKind.wrap IntKind.i64 ((intOf v103) + (1 : Int))))))
                                                    Prog.fail
                                                    (okK (Kd.int IntKind.i64) v103)))
                                                  (loadT En 3 x0 1))
                                                (Prog.call (callF En (runP En f) 67 [(Value.pointer (Option.some (Addr.mk x0 0 Option.none)))]) fun v108 =>
                                                  (cnd
                                                    (Prog.ret (Value.tuple ⟨[]⟩))
                                                    Prog.fail
                                                    ((isTupV v108) && (okNs [] (tupOf v108)))))
                                                (decide ((intOf v68) = (92 : Int))))
                                              (decide ((intOf v68) = (47 : Int))))
                                            (decide ((intOf v68) = (39 : Int))))
                                          (decide ((intOf v84) ≥ (0 : Int))))
                                        Prog.fail
                                        (okK (Kd.int IntKind.i64) v84)))
                                    (cnd
                                      (callP (fun v109 =>
                                        (cnd
                                          (callP (fun v110 =>
                                            (Prog.call (callF En (runP En f) 59 [(Value.pointer (Option.some (Addr.mk x0 0 Option.none))), (Value.int IntKind.i64 (0 : Int))]) fun v111 =>
                                              (cnd
                                                (cnd
                                                  (callP (fun v112 =>
                                                    (cnd
                                                      (callP (fun v113 =>
                                                        (p34_21 f x0 (intOf v66)))
                                                        (storeT En 3 x0 1 (Value.int IntKind.i64 (IntKind.wrap IntKind.i64 ((intOf v112) + (1 : Int))))))
                                                      Prog.fail
                                                      (okK (Kd.int IntKind.i64) v112)))
                                                    (loadT En 3 x0 1))
                                                  (p34_21 f x0 (intOf v66))
                                                  (decide ((intOf v111) = (58 : Int))))
                                                Prog.fail
                                                (okK (Kd.int IntKind.u8) v111))))
                                            (storeT En 3 x0 1 (Value.int IntKind.i64 (IntKind.wrap IntKind.i64 ((intOf v109) + (1 : Int))))))
                                          Prog.fail
                                          (okK (Kd.int IntKind.i64) v109)))
                                        (loadT En 3 x0 1))
                                      (cnd
                                        (callP (fun v114 =>
                                          (cnd
                                            (callP (fun v115 =>
                                              (Prog.call (callF En (runP En f) 59 [(Value.pointer (Option.some (Addr.mk x0 0 Option.none))), (Value.int IntKind.i64 (0 : Int))]) fun v116 =>
                                                (cnd
                                                  (cnd
                                                    (callP (fun v117 =>
                                                      (cnd
                                                        (callP (fun v118 =>
                                                          (p34_21 f x0 (intOf v66)))
                                                          (storeT En 3 x0 1 (Value.int IntKind.i64 (IntKind.wrap IntKind.i64 ((intOf v117) + (1 : Int))))))
                                                        Prog.fail
                                                        (okK (Kd.int IntKind.i64) v117)))
                                                      (loadT En 3 x0 1))
                                                    (p34_21 f x0 (intOf v66))
                                                    (decide ((intOf v116) = (58 : Int))))
                                                  Prog.fail
                                                  (okK (Kd.int IntKind.u8) v116))))
                                              (storeT En 3 x0 1 (Value.int IntKind.i64 (IntKind.wrap IntKind.i64 ((intOf v114) + (1 : Int))))))
                                            Prog.fail
                                            (okK (Kd.int IntKind.i64) v114)))
                                          (loadT En 3 x0 1))
                                        (cnd
                                          (callP (fun v119 =>
                                            (cnd
                                              (callP (fun v120 =>
                                                (Prog.call (callF En (runP En f) 59 [(Value.pointer (Option.some (Addr.mk x0 0 Option.none))), (Value.int IntKind.i64 (0 : Int))]) fun v121 =>
                                                  (cnd
                                                    (cnd
                                                      (callP (fun v122 =>
                                                        (cnd
                                                          (callP (fun v123 =>
                                                            (p34_21 f x0 (intOf v66)))
                                                            (storeT En 3 x0 1 (Value.int IntKind.i64 (IntKind.wrap IntKind.i64 ((intOf v122) + (1 : Int))))))
                                                          Prog.fail
                                                          (okK (Kd.int IntKind.i64) v122)))
                                                        (loadT En 3 x0 1))
                                                      (p34_21 f x0 (intOf v66))
                                                      (decide ((intOf v121) = (58 : Int))))
                                                    Prog.fail
                                                    (okK (Kd.int IntKind.u8) v121))))
                                                (storeT En 3 x0 1 (Value.int IntKind.i64 (IntKind.wrap IntKind.i64 ((intOf v119) + (1 : Int))))))
                                              Prog.fail
                                              (okK (Kd.int IntKind.i64) v119)))
                                            (loadT En 3 x0 1))
                                          (Prog.call (callF En (runP En f) 67 [(Value.pointer (Option.some (Addr.mk x0 0 Option.none)))]) fun v124 =>
                                            (cnd
                                              (Prog.ret (Value.tuple ⟨[]⟩))
                                              Prog.fail
                                              ((isTupV v124) && (okNs [] (tupOf v124)))))
                                          (decide ((intOf v68) = (92 : Int))))
                                        (decide ((intOf v68) = (47 : Int))))
                                      (decide ((intOf v68) = (39 : Int))))
                                    (Bool.not (decide ((intOf v68) = (0 : Int)))))
                                  (decide ((intOf v68) = (34 : Int))))
                                (decide ((intOf v68) = (96 : Int))))
                              (boolOf v74))
                            Prog.fail
                            (okK Kd.bool v74)))
                        (boolOf v72))
                      Prog.fail
                      (okK Kd.bool v72)))
                  (boolOf v70))
                Prog.fail
                (okK Kd.bool v70)))
            Prog.fail
            (okK (Kd.int IntKind.u8) v68))))
      Prog.fail
      (okK (Kd.int IntKind.i64) v66))) := by kernel_rfl
end Go.Proofs.YtmjbmbmnnephjaaGreatDoor
/- What comes of the points of a function: printed by the tool. -/
namespace Go.Proofs.YtmjbmbmnnephjaaGreatDoor
open Go Go.Ev Go.Proofs
set_option maxRecDepth 8000
set_option linter.unusedVariables false
theorem f35_eq (f : Nat) (x0 : Nat) (x1 : Int) (x2 : Int) : callF En (runP En (f + 1)) 35 [(Value.pointer (Option.some (Addr.mk x0 0 Option.none))), (Value.int IntKind.i64 x1), (Value.int IntKind.i64 x2)] =
  (callP (fun v4 =>
    (cnd
      (cnd
        (callP (fun v5 =>
          (callP (fun v6 =>
            (Prog.ret (Value.tuple ⟨[]⟩)))
            (storeT En 3 x0 4 (Value.int IntKind.i64 x2))))
          (storeT En 24 x0 3 (Value.int IntKind.i64 x1)))
        (Prog.ret (Value.tuple ⟨[]⟩))
        (decide ((intOf v4) = (0 : Int))))
      Prog.fail
      (okK (Kd.int IntKind.i64) v4)))
    (loadT En 24 x0 3)) := by kernel_rfl
end Go.Proofs.YtmjbmbmnnephjaaGreatDoor
/- What comes of the points of a function: printed by the tool. -/
namespace Go.Proofs.YtmjbmbmnnephjaaGreatDoor
open Go Go.Ev Go.Proofs
set_option maxRecDepth 8000
set_option linter.unusedVariables false
noncomputable def p36_11 (f : Nat) (x1 : Int) (x2 : Nat) (x2o : Nat) (x9 : Int) : Prog := runP En f 36 (tmL 103 [(1, (Value.int IntKind.i64 x1)), (2, (Value.pointer (Option.some (Addr.mk x2 x2o Option.none)))), (9, (Value.int IntKind.i64 x9))]) [.code (cL (cL (cI (cI (cR (cL (cR (cR (cR (cR (cR (cR (cB 36))))))))))))), .code (cR (cL (cI (cI (cR (cL (cR (cR (cR (cR (cR (cR (cB 36))))))))))))), .code (cR (cI (cI (cR (cL (cR (cR (cR (cR (cR (cR (cB 36)))))))))))), .inLoop (cI (cI (cR (cL (cR (cR (cR (cR (cR (cR (cB 36))))))))))), .inBlock 0, .code (cR (cR (cR (cR (cR (cR (cR (cB 36))))))))] [] none
noncomputable def p36_18 (f : Nat) (x1 : Int) (x2 : Nat) (x2o : Nat) (x10 : Int) : Prog := runP En f 36 (tmL 103 [(1, (Value.int IntKind.i64 x1)), (2, (Value.pointer (Option.some (Addr.mk x2 x2o Option.none)))), (10, (Value.int IntKind.i64 x10))]) [.code (cL (cL (cI (cI (cR (cL (cR (cR (cR (cR (cR (cR (cR (cR (cB 36))))))))))))))), .code (cR (cL (cI (cI (cR (cL (cR (cR (cR (cR (cR (cR (cR (cR (cB 36))))))))))))))), .code (cR (cI (cI (cR (cL (cR (cR (cR (cR (cR (cR (cR (cR (cB 36)))))))))))))), .inLoop (cI (cI (cR (cL (cR (cR (cR (cR (cR (cR (cR (cR (cB 36))))))))))))), .inBlock 2, .code (cR (cR (cR (cR (cR (cR (cR (cR (cR (cB 36))))))))))] [] none
theorem p36_11_eq (f : Nat) (x1 : Int) (x2 : Nat) (x2o : Nat) (x9 : Int) : p36_11 (f + 1) x1 x2 x2o x9 =
  (callP (fun v73 =>
    (cnd
      (cnd
        (callP (fun v74 =>
          (cnd
            (cnd
              (Prog.seg (loadT En 30 x2 (x2o + 3)) fun v75 s76 _ =>
                (cnd
                  (cnd
                    (cnd
                      (cnd
                        (cnd
                          (Prog.seg (callF En (runP En f) 16 [(Value.agg ⟨((Value.int IntKind.i64 (intOf (at_ (List.take 4 (Array.toList (Value.cells (at_ (elems v75) (Int.toNat x9))))) 0))) :: ((lstV (elems (at_ (List.take 4 (Array.toList (Value.cells (at_ (elems v75) (Int.toNat x9))))) 1))) :: ((lstV (elems (at_ (List.take 4 (Array.toList (Value.cells (at_ (elems v75) (Int.toNat x9))))) 2))) :: ((lstV (elems (at_ (List.take 4 (Array.toList (Value.cells (at_ (elems v75) (Int.toNat x9))))) 3))) :: []))))⟩)]) fun v77 s78 _ =>
                            (gdL 31 (writesOf s78) s78 [⟨1, writesOf s76, s76⟩]
                              (cnd
                                (Prog.seg (loadT En 30 x2 (x2o + 3)) fun v79 s80 _ =>
                                  (gdL 64 (writesOf s80) s80 [⟨5, writesOf s78, s78⟩, ⟨1, writesOf s76, s76⟩]
                                    (cnd
                                      (cnd
                                        (cnd
                                          (cnd
                                            (Prog.seg (callF En (runP En f) 16 [(Value.agg ⟨((Value.int IntKind.i64 (intOf (at_ (List.take 4 (Array.toList (Value.cells (at_ (elems v79) 0)))) 0))) :: ((lstV (elems (at_ (List.take 4 (Array.toList (Value.cells (at_ (elems v79) 0)))) 1))) :: ((lstV (elems (at_ (List.take 4 (Array.toList (Value.cells (at_ (elems v79) 0)))) 2))) :: ((lstV (elems (at_ (List.take 4 (Array.toList (Value.cells (at_ (elems v79) 0)))) 3))) :: []))))⟩)]) fun v81 s82 _ =>
                                              (gdL 1023 (writesOf s82) s82 [⟨7, writesOf s80, s80⟩, ⟨5, writesOf s78, s78⟩, ⟨1, writesOf s76, s76⟩]
                                                (cnd
                                                  (cnd
                                                    (Prog.ret (Value.int IntKind.i64 (32 : Int)))
                                                    (p36_11 f x1 x2 x2o (IntKind.wrap IntKind.i64 (x9 + (1 : Int))))
                                                    (Bool.not (decide ((intOf v77) = (intOf v81)))))
                                                  Prog.fail
                                                  (okK (Kd.int IntKind.i64) v81))))
                                            Prog.fail
                                            (okKs ((Kd.int IntKind.i64) :: (Kd.lst :: (Kd.lst :: (Kd.lst :: [])))) (List.take 4 (Array.toList (Value.cells (at_ (elems v79) 0))))))
                                          Prog.fail
                                          (Nat.ble 4 (List.length (Array.toList (Value.cells (at_ (elems v79) 0))))))
                                        Prog.fail
                                        (((Nat.ble 1 (List.length (elems v79))) && Bool.true) && (hdOk 4 (elems v79))))
                                      Prog.fail
                                      (isLst v79))))
                                Prog.fail
                                (okK (Kd.int IntKind.i64) v77))))
                          Prog.fail
                          (okKs ((Kd.int IntKind.i64) :: (Kd.lst :: (Kd.lst :: (Kd.lst :: [])))) (List.take 4 (Array.toList (Value.cells (at_ (elems v75) (Int.toNat x9)))))))
                        Prog.fail
                        (Nat.ble 4 (List.length (Array.toList (Value.cells (at_ (elems v75) (Int.toNat x9)))))))
                      Prog.fail
                      (((Nat.ble (Nat.succ (Int.toNat x9)) (List.length (elems v75))) && Bool.true) && (hdOk 4 (elems v75))))
                    Prog.fail
                    (decide ((0 : Int) ≤ x9)))
                  Prog.fail
                  (isLst v75)))
              (cnd
                (Prog.ret (Value.int IntKind.i64 (0 : Int)))
                (p36_18 f x1 x2 x2o (0 : Int))
                (decide (x1 = (0 : Int))))
              (Bool.not (decide ((intOf v74) = (0 : Int)))))
            Prog.fail
            (okK (Kd.int IntKind.i64) v74)))
          (loadT En 3 x2 (x2o + 0)))
        (cnd
          (Prog.ret (Value.int IntKind.i64 (0 : Int)))
          (p36_18 f x1 x2 x2o (0 : Int))
          (decide (x1 = (0 : Int))))
        (decide (x9 < (Int.ofNat (List.length (elems v73))))))
      Prog.fail
      (isLst v73)))
    (loadT En 30 x2 (x2o + 3))) := by kernel_rfl
theorem p36_18_eq (f : Nat) (x1 : Int) (x2 : Nat) (x2o : Nat) (x10 : Int) : p36_18 (f + 1) x1 x2 x2o x10 =
  (callP (fun v83 =>
    (cnd
      (cnd
        (callP (fun v84 =>
          (cnd
            (cnd
              (cnd
                (cnd
                  (cnd
                    (Prog.call (callF En (runP En f) 36 [(Value.agg ⟨((Value.int IntKind.i64 (intOf (at_ (List.take 4 (Array.toList (Value.cells (at_ (elems v84) (Int.toNat x10))))) 0))) :: ((lstV (elems (at_ (List.take 4 (Array.toList (Value.cells (at_ (elems v84) (Int.toNat x10))))) 1))) :: ((lstV (elems (at_ (List.take 4 (Array.toList (Value.cells (at_ (elems v84) (Int.toNat x10))))) 2))) :: ((lstV (elems (at_ (List.take 4 (Array.toList (Value.cells (at_ (elems v84) (Int.toNat x10))))) 3))) :: []))))⟩), (Value.int IntKind.i64 (IntKind.wrap IntKind.i64 (x1 + (-1 : Int))))]) fun v85 =>
                      (cnd
                        (cnd
                          (Prog.ret (Value.int IntKind.i64 (intOf v85)))
                          (p36_18 f x1 x2 x2o (IntKind.wrap IntKind.i64 (x10 + (1 : Int))))
                          (Bool.not (decide ((intOf v85) = (0 : Int)))))
                        Prog.fail
                        (okK (Kd.int IntKind.i64) v85)))
                    Prog.fail
                    (okKs ((Kd.int IntKind.i64) :: (Kd.lst :: (Kd.lst :: (Kd.lst :: [])))) (List.take 4 (Array.toList (Value.cells (at_ (elems v84) (Int.toNat x10)))))))
                  Prog.fail
                  (Nat.ble 4 (List.length (Array.toList (Value.cells (at_ (elems v84) (Int.toNat x10)))))))
                Prog.fail
                (((Nat.ble (Nat.succ (Int.toNat x10)) (List.length (elems v84))) && Bool.true) && (hdOk 4 (elems v84))))
              Prog.fail
              (decide ((0 : Int) ≤ x10)))
            Prog.fail
            (isLst v84)))
          (loadT En 30 x2 (x2o + 3)))
        (Prog.ret (Value.int IntKind.i64 (0 : Int)))
        (decide (x10 < (Int.ofNat (List.length (elems v83))))))
      Prog.fail
      (isLst v83)))
    (loadT En 30 x2 (x2o + 3))) := by kernel_rfl
theorem f36_eq (f : Nat) (x0_0 : Int) (x0_1 : List Value) (x0_2 : List Value) (x0_3 : List Value) (x1 : Int) : callF En (runP En (f + 1)) 36 [(Value.agg ⟨((Value.int IntKind.i64 x0_0) :: ((lstV x0_1) :: ((lstV x0_2) :: ((lstV x0_3) :: []))))⟩), (Value.int IntKind.i64 x1)] =
  (gd Bool.true
    (callP (fun v87 =>
      (cnd
        (callP (fun v88 =>
          (cnd
            (Prog.call (callF En (runP En f) 68 [(Value.int IntKind.i64 (intOf v88))]) fun v89 =>
              (cnd
                (cnd
                  (Prog.ret (Value.int IntKind.i64 (30 : Int)))
                  (cnd
                    (callP (fun v90 =>
                      (cnd
                        (cnd
                          (Prog.ret (Value.int IntKind.i64 (30 : Int)))
                          (cnd
                            (callP (fun v91 =>
                              (cnd
                                (cnd
                                  (Prog.ret (Value.int IntKind.i64 (30 : Int)))
                                  (cnd
                                    (callP (fun v92 =>
                                      (cnd
                                        (cnd
                                          (Prog.ret (Value.int IntKind.i64 (30 : Int)))
                                          (callP (fun v93 =>
                                            (cnd
                                              (Prog.call (callF En (runP En f) 69 [(Value.agg ⟨((Value.int IntKind.i64 (intOf (at_ (aggOf v93) 0))) :: ((lstV (elems (at_ (aggOf v93) 1))) :: ((lstV (elems (at_ (aggOf v93) 2))) :: ((lstV (elems (at_ (aggOf v93) 3))) :: []))))⟩)]) fun v94 =>
                                                (cnd
                                                  (cnd
                                                    (Prog.ret (Value.int IntKind.i64 (6 : Int)))
                                                    (callP (fun v95 =>
                                                      (cnd
                                                        (Prog.call (callF En (runP En f) 70 [(Value.agg ⟨((Value.int IntKind.i64 (intOf (at_ (aggOf v95) 0))) :: ((lstV (elems (at_ (aggOf v95) 1))) :: ((lstV (elems (at_ (aggOf v95) 2))) :: ((lstV (elems (at_ (aggOf v95) 3))) :: []))))⟩)]) fun v96 =>
                                                          (cnd
                                                            (cnd
                                                              (Prog.ret (Value.int IntKind.i64 (1 : Int)))
                                                              (callP (fun v97 =>
                                                                (cnd
                                                                  (Prog.call (callF En (runP En f) 71 [(Value.agg ⟨((Value.int IntKind.i64 (intOf (at_ (aggOf v97) 0))) :: ((lstV (elems (at_ (aggOf v97) 1))) :: ((lstV (elems (at_ (aggOf v97) 2))) :: ((lstV (elems (at_ (aggOf v97) 3))) :: []))))⟩)]) fun v98 =>
                                                                    (cnd
                                                                      (cnd
                                                                        (Prog.ret (Value.int IntKind.i64 (30 : Int)))
                                                                        (p36_11 f x1 (blkOf v87) (offOf v87) (1 : Int))
                                                                        (Bool.not (boolOf v98)))
                                                                      Prog.fail
                                                                      (okK Kd.bool v98)))
                                                                  Prog.fail
                                                                  ((isAggV v97) && (okKs ((Kd.int IntKind.i64) :: (Kd.lst :: (Kd.lst :: (Kd.lst :: [])))) (aggOf v97)))))
                                                                (loadT En 32 (blkOf v87) (offOf v87)))
                                                              (boolOf v96))
                                                            Prog.fail
                                                            (okK Kd.bool v96)))
                                                        Prog.fail
                                                        ((isAggV v95) && (okKs ((Kd.int IntKind.i64) :: (Kd.lst :: (Kd.lst :: (Kd.lst :: [])))) (aggOf v95)))))
                                                      (loadT En 32 (blkOf v87) (offOf v87)))
                                                    (boolOf v94))
                                                  Prog.fail
                                                  (okK Kd.bool v94)))
                                              Prog.fail
                                              ((isAggV v93) && (okKs ((Kd.int IntKind.i64) :: (Kd.lst :: (Kd.lst :: (Kd.lst :: [])))) (aggOf v93)))))
                                            (loadT En 32 (blkOf v87) (offOf v87)))
                                          (decide ((Int.ofNat (List.length (elems v92))) > (0 : Int))))
                                        Prog.fail
                                        (isLst v92)))
                                      (loadT En 30 (blkOf v87) ((offOf v87) + 3)))
                                    (callP (fun v99 =>
                                      (cnd
                                        (Prog.call (callF En (runP En f) 69 [(Value.agg ⟨((Value.int IntKind.i64 (intOf (at_ (aggOf v99) 0))) :: ((lstV (elems (at_ (aggOf v99) 1))) :: ((lstV (elems (at_ (aggOf v99) 2))) :: ((lstV (elems (at_ (aggOf v99) 3))) :: []))))⟩)]) fun v100 =>
                                          (cnd
                                            (cnd
                                              (Prog.ret (Value.int IntKind.i64 (6 : Int)))
                                              (callP (fun v101 =>
                                                (cnd
                                                  (Prog.call (callF En (runP En f) 70 [(Value.agg ⟨((Value.int IntKind.i64 (intOf (at_ (aggOf v101) 0))) :: ((lstV (elems (at_ (aggOf v101) 1))) :: ((lstV (elems (at_ (aggOf v101) 2))) :: ((lstV (elems (at_ (aggOf v101) 3))) :: []))))⟩)]) fun v102 =>
                                                    (cnd
                                                      (cnd
                                                        (Prog.ret (Value.int IntKind.i64 (1 : Int)))
                                                        (callP (fun v103 =>
                                                          (cnd
                                                            (Prog.call (callF En (runP En f) 71 [(Value.agg ⟨((Value.int IntKind.i64 (intOf (at_ (aggOf v103) 0))) :: ((lstV (elems (at_ (aggOf v103) 1))) :: ((lstV (elems (at_ (aggOf v103) 2))) :: ((lstV (elems (at_ (aggOf v103) 3))) :: []))))⟩)]) fun v104 =>
                                                              (cnd
                                                                (cnd
                                                                  (Prog.ret (Value.int IntKind.i64 (30 : Int)))
                                                                  (p36_11 f x1 (blkOf v87) (offOf v87) (1 : Int))
                                                                  (Bool.not (boolOf v104)))
                                                                Prog.fail
                                                                (okK Kd.bool v104)))
                                                            Prog.fail
                                                            ((isAggV v103) && (okKs ((Kd.int IntKind.i64) :: (Kd.lst :: (Kd.lst :: (Kd.lst :: [])))) (aggOf v103)))))
                                                          (loadT En 32 (blkOf v87) (offOf v87)))
                                                        (boolOf v102))
                                                      Prog.fail
                                                      (okK Kd.bool v102)))
                                                  Prog.fail
                                                  ((isAggV v101) && (okKs ((Kd.int IntKind.i64) :: (Kd.lst :: (Kd.lst :: (Kd.lst :: [])))) (aggOf v101)))))
                                                (loadT En 32 (blkOf v87) (offOf v87)))
                                              (boolOf v100))
                                            Prog.fail
                                            (okK Kd.bool v100)))
                                        Prog.fail
                                        ((isAggV v99) && (okKs ((Kd.int IntKind.i64) :: (Kd.lst :: (Kd.lst :: (Kd.lst :: [])))) (aggOf v99)))))
                                      (loadT En 32 (blkOf v87) (offOf v87)))
                                    (Bool.not (boolOf (at_ (tupOf v89) 2))))
                                  (decide ((Int.ofNat (List.length (elems v91))) > (0 : Int))))
                                Prog.fail
                                (isLst v91)))
                              (loadT En 29 (blkOf v87) ((offOf v87) + 2)))
                            (cnd
                              (callP (fun v105 =>
                                (cnd
                                  (cnd
                                    (Prog.ret (Value.int IntKind.i64 (30 : Int)))
                                    (callP (fun v106 =>
                                      (cnd
                                        (Prog.call (callF En (runP En f) 69 [(Value.agg ⟨((Value.int IntKind.i64 (intOf (at_ (aggOf v106) 0))) :: ((lstV (elems (at_ (aggOf v106) 1))) :: ((lstV (elems (at_ (aggOf v106) 2))) :: ((lstV (elems (at_ (aggOf v106) 3))) :: []))))⟩)]) fun v107 =>
                                          (cnd
                                            (cnd
                                              (Prog.ret (Value.int IntKind.i64 (6 : Int)))
                                              (callP (fun v108 =>
                                                (cnd
                                                  (Prog.call (callF En (runP En f) 70 [(Value.agg ⟨((Value.int IntKind.i64 (intOf (at_ (aggOf v108) 0))) :: ((lstV (elems (at_ (aggOf v108) 1))) :: ((lstV (elems (at_ (aggOf v108) 2))) :: ((lstV (elems (at_ (aggOf v108) 3))) :: []))))⟩)]) fun v109 =>
                                                    (cnd
                                                      (cnd
                                                        (Prog.ret (Value.int IntKind.i64 (1 : Int)))
                                                        (callP (fun v110 =>
                                                          (cnd
                                                            (Prog.call (callF En (runP En f) 71 [(Value.agg ⟨((Value.int IntKind.i64 (intOf (at_ (aggOf v110) 0))) :: ((lstV (elems (at_ (aggOf v110) 1))) :: ((lstV (elems (at_ (aggOf v110) 2))) :: ((lstV (elems (at_ (aggOf v110) 3))) :: []))))⟩)]) fun v111 =>
                                                              (cnd
                                                                (cnd
                                                                  (Prog.ret (Value.int IntKind.i64 (30 : Int)))
                                                                  (p36_11 f x1 (blkOf v87) (offOf v87) (1 : Int))
                                                                  (Bool.not (boolOf v111)))
                                                                Prog.fail
                                                                (okK Kd.bool v111)))
                                                            Prog.fail
                                                            ((isAggV v110) && (okKs ((Kd.int IntKind.i64) :: (Kd.lst :: (Kd.lst :: (Kd.lst :: [])))) (aggOf v110)))))
                                                          (loadT En 32 (blkOf v87) (offOf v87)))
                                                        (boolOf v109))
                                                      Prog.fail
                                                      (okK Kd.bool v109)))
                                                  Prog.fail
                                                  ((isAggV v108) && (okKs ((Kd.int IntKind.i64) :: (Kd.lst :: (Kd.lst :: (Kd.lst :: [])))) (aggOf v108)))))
                                                (loadT En 32 (blkOf v87) (offOf v87)))
                                              (boolOf v107))
                                            Prog.fail
                                            (okK Kd.bool v107)))
                                        Prog.fail
                                        ((isAggV v106) && (okKs ((Kd.int IntKind.i64) :: (Kd.lst :: (Kd.lst :: (Kd.lst :: [])))) (aggOf v106)))))
                                      (loadT En 32 (blkOf v87) (offOf v87)))
                                    (decide ((Int.ofNat (List.length (elems v105))) > (0 : Int))))
                                  Prog.fail
                                  (isLst v105)))
                                (loadT En 30 (blkOf v87) ((offOf v87) + 3)))
                              (callP (fun v112 =>
                                (cnd
                                  (Prog.call (callF En (runP En f) 69 [(Value.agg ⟨((Value.int IntKind.i64 (intOf (at_ (aggOf v112) 0))) :: ((lstV (elems (at_ (aggOf v112) 1))) :: ((lstV (elems (at_ (aggOf v112) 2))) :: ((lstV (elems (at_ (aggOf v112) 3))) :: []))))⟩)]) fun v113 =>
                                    (cnd
                                      (cnd
                                        (Prog.ret (Value.int IntKind.i64 (6 : Int)))
                                        (callP (fun v114 =>
                                          (cnd
                                            (Prog.call (callF En (runP En f) 70 [(Value.agg ⟨((Value.int IntKind.i64 (intOf (at_ (aggOf v114) 0))) :: ((lstV (elems (at_ (aggOf v114) 1))) :: ((lstV (elems (at_ (aggOf v114) 2))) :: ((lstV (elems (at_ (aggOf v114) 3))) :: []))))⟩)]) fun v115 =>
                                              (cnd
                                                (cnd
                                                  (Prog.ret (Value.int IntKind.i64 (1 : Int)))
                                                  (callP (fun v116 =>
                                                    (cnd
                                                      (Prog.call (callF En (runP En f) 71 [(Value.agg ⟨((Value.int IntKind.i64 (intOf (at_ (aggOf v116) 0))) :: ((lstV (elems (at_ (aggOf v116) 1))) :: ((lstV (elems (at_ (aggOf v116) 2))) :: ((lstV (elems (at_ (aggOf v116) 3))) :: []))))⟩)]) fun v117 =>
                                                        (cnd
                                                          (cnd
                                                            (Prog.ret (Value.int IntKind.i64 (30 : Int)))
                                                            (p36_11 f x1 (blkOf v87) (offOf v87) (1 : Int))
                                                            (Bool.not (boolOf v117)))
                                                          Prog.fail
                                                          (okK Kd.bool v117)))
                                                      Prog.fail
                                                      ((isAggV v116) && (okKs ((Kd.int IntKind.i64) :: (Kd.lst :: (Kd.lst :: (Kd.lst :: [])))) (aggOf v116)))))
                                                    (loadT En 32 (blkOf v87) (offOf v87)))
                                                  (boolOf v115))
                                                Prog.fail
                                                (okK Kd.bool v115)))
                                            Prog.fail
                                            ((isAggV v114) && (okKs ((Kd.int IntKind.i64) :: (Kd.lst :: (Kd.lst :: (Kd.lst :: [])))) (aggOf v114)))))
                                          (loadT En 32 (blkOf v87) (offOf v87)))
                                        (boolOf v113))
                                      Prog.fail
                                      (okK Kd.bool v113)))
                                  Prog.fail
                                  ((isAggV v112) && (okKs ((Kd.int IntKind.i64) :: (Kd.lst :: (Kd.lst :: (Kd.lst :: [])))) (aggOf v112)))))
                                (loadT En 32 (blkOf v87) (offOf v87)))
                              (Bool.not (boolOf (at_ (tupOf v89) 2))))
                            (Bool.not (boolOf (at_ (tupOf v89) 1))))
                          (decide ((Int.ofNat (List.length (elems v90))) > (0 : Int))))
                        Prog.fail
                        (isLst v90)))
                      (loadT En 28 (blkOf v87) ((offOf v87) + 1)))
                    (cnd
                      (callP (fun v118 =>
                        (cnd
                          (cnd
                            (Prog.ret (Value.int IntKind.i64 (30 : Int)))
                            (cnd
                              (callP (fun v119 =>
                                (cnd
                                  (cnd
                                    (Prog.ret (Value.int IntKind.i64 (30 : Int)))
                                    (callP (fun v120 =>
                                      (cnd
                                        (Prog.call (callF En (runP En f) 69 [(Value.agg ⟨((Value.int IntKind.i64 (intOf (at_ (aggOf v120) 0))) :: ((lstV (elems (at_ (aggOf v120) 1))) :: ((lstV (elems (at_ (aggOf v120) 2))) :: ((lstV (elems (at_ (aggOf v120) 3))) :: []))))⟩)]) fun v121 =>
                                          (cnd
                                            (cnd
                                              (Prog.ret (Value.int IntKind.i64 (6 : Int)))
                                              (callP (fun v122 =>
                                                (cnd
                                                  (Prog.call (callF En (runP En f) 70 [(Value.agg ⟨((Value.int IntKind.i64 (intOf (at_ (aggOf v122) 0))) :: ((lstV (elems (at_ (aggOf v122) 1))) :: ((lstV (elems (at_ (aggOf v122) 2))) :: ((lstV (elems (at_ (aggOf v122) 3))) :: []))))⟩)]) fun v123 =>
                                                    (cnd
                                                      (cnd
                                                        (Prog.ret (Value.int IntKind.i64 (1 : Int)))
                                                        (callP (fun v124 =>
                                                          (cnd
                                                            (Prog.call (callF En (runP En f) 71 [(Value.agg ⟨((Value.int IntKind.i64 (intOf (at_ (aggOf v124) 0))) :: ((lstV (elems (at_ (aggOf v124) 1))) :: ((lstV (elems (at_ (aggOf v124) 2))) :: ((lstV (elems (at_ (aggOf v124) 3))) :: []))))⟩)]) fun v125 =>
                                                              (cnd
                                                                (cnd
                                                                  (Prog.ret (Value.int IntKind.i64 (30 : Int)))
                                                                  (p36_11 f x1 (blkOf v87) (offOf v87) (1 : Int))
                                                                  (Bool.not (boolOf v125)))
                                                                Prog.fail
                                                                (okK Kd.bool v125)))
                                                            Prog.fail
                                                            ((isAggV v124) && (okKs ((Kd.int IntKind.i64) :: (Kd.lst :: (Kd.lst :: (Kd.lst :: [])))) (aggOf v124)))))
                                                          (loadT En 32 (blkOf v87) (offOf v87)))
                                                        (boolOf v123))
                                                      Prog.fail
                                                      (okK Kd.bool v123)))
                                                  Prog.fail
                                                  ((isAggV v122) && (okKs ((Kd.int IntKind.i64) :: (Kd.lst :: (Kd.lst :: (Kd.lst :: [])))) (aggOf v122)))))
                                                (loadT En 32 (blkOf v87) (offOf v87)))
                                              (boolOf v121))
                                            Prog.fail
                                            (okK Kd.bool v121)))
                                        Prog.fail
                                        ((isAggV v120) && (okKs ((Kd.int IntKind.i64) :: (Kd.lst :: (Kd.lst :: (Kd.lst :: [])))) (aggOf v120)))))
                                      (loadT En 32 (blkOf v87) (offOf v87)))
                                    (decide ((Int.ofNat (List.length (elems v119))) > (0 : Int))))
                                  Prog.fail
                                  (isLst v119)))
                                (loadT En 30 (blkOf v87) ((offOf v87) + 3)))
                              (callP (fun v126 =>
                                (cnd
                                  (Prog.call (callF En (runP En f) 69 [(Value.agg ⟨((Value.int IntKind.i64 (intOf (at_ (aggOf v126) 0))) :: ((lstV (elems (at_ (aggOf v126) 1))) :: ((lstV (elems (at_ (aggOf v126) 2))) :: ((lstV (elems (at_ (aggOf v126) 3))) :: []))))⟩)]) fun v127 =>
                                    (cnd
                                      (cnd
                                        (Prog.ret (Value.int IntKind.i64 (6 : Int)))
                                        (callP (fun v128 =>
                                          (cnd
                                            (Prog.call (callF En (runP En f) 70 [(Value.agg ⟨((Value.int IntKind.i64 (intOf (at_ (aggOf v128) 0))) :: ((lstV (elems (at_ (aggOf v128) 1))) :: ((lstV (elems (at_ (aggOf v128) 2))) :: ((lstV (elems (at_ (aggOf v128) 3))) :: []))))⟩)]) fun v129 =>
                                              (cnd
                                                (cnd
                                                  (Prog.ret (Value.int IntKind.i64 (1 : Int)))
                                                  (callP (fun v130 =>
                                                    (cnd
                                                      (Prog.call (callF En (runP En f) 71 [(Value.agg ⟨((Value.int IntKind.i64 (intOf (at_ (aggOf v130) 0))) :: ((lstV (elems (at_ (aggOf v130) 1))) :: ((lstV (elems (at_ (aggOf v130) 2))) :: ((lstV (elems (at_ (aggOf v130) 3))) :: []))))⟩)]) fun v131 =>
                                                        (cnd
                                                          (cnd
                                                            (Prog.ret (Value.int IntKind.i64 (30 : Int)))
                                                            (p36_11 f x1 (blkOf v87) (offOf v87) (1 : Int))
                                                            (Bool.not (boolOf v131)))
                                                          Prog.fail
                                                          (okK Kd.bool v131)))
                                                      Prog.fail
                                                      ((isAggV v130) && (okKs ((Kd.int IntKind.i64) :: (Kd.lst :: (Kd.lst :: (Kd.lst :: [])))) (aggOf v130)))))
                                                    (loadT En 32 (blkOf v87) (offOf v87)))
                                                  (boolOf v129))
                                                Prog.fail
                                                (okK Kd.bool v129)))
                                            Prog.fail
                                            ((isAggV v128) && (okKs ((Kd.int IntKind.i64) :: (Kd.lst :: (Kd.lst :: (Kd.lst :: [])))) (aggOf v128)))))
                                          (loadT En 32 (blkOf v87) (offOf v87)))
                                        (boolOf v127))
                                      Prog.fail
                                      (okK Kd.bool v127)))
                                  Prog.fail
                                  ((isAggV v126) && (okKs ((Kd.int IntKind.i64) :: (Kd.lst :: (Kd.lst :: (Kd.lst :: [])))) (aggOf v126)))))
                                (loadT En 32 (blkOf v87) (offOf v87)))
                              (Bool.not (boolOf (at_ (tupOf v89) 2))))
                            (decide ((Int.ofNat (List.length (elems v118))) > (0 : Int))))
                          Prog.fail
                          (isLst v118)))
                        (loadT En 29 (blkOf v87) ((offOf v87) + 2)))
                      (cnd
                        (callP (fun v132 =>
                          (cnd
                            (cnd
                              (Prog.ret (Value.int IntKind.i64 (30 : Int)))
                              (callP (fun v133 =>
                                (cnd
                                  (Prog.call (callF En (runP En f) 69 [(Value.agg ⟨((Value.int IntKind.i64 (intOf (at_ (aggOf v133) 0))) :: ((lstV (elems (at_ (aggOf v133) 1))) :: ((lstV (elems (at_ (aggOf v133) 2))) :: ((lstV (elems (at_ (aggOf v133) 3))) :: []))))⟩)]) fun v134 =>
                                    (cnd
                                      (cnd
                                        (Prog.ret (Value.int IntKind.i64 (6 : Int)))
                                        (callP (fun v135 =>
                                          (cnd
                                            (Prog.call (callF En (runP En f) 70 [(Value.agg ⟨((Value.int IntKind.i64 (intOf (at_ (aggOf v135) 0))) :: ((lstV (elems (at_ (aggOf v135) 1))) :: ((lstV (elems (at_ (aggOf v135) 2))) :: ((lstV (elems (at_ (aggOf v135) 3))) :: []))))⟩)]) fun v136 =>
                                              (cnd
                                                (cnd
                                                  (Prog.ret (Value.int IntKind.i64 (1 : Int)))
                                                  (callP (fun v137 =>
                                                    (cnd
                                                      (Prog.call (callF En (runP En f) 71 [(Value.agg ⟨((Value.int IntKind.i64 (intOf (at_ (aggOf v137) 0))) :: ((lstV (elems (at_ (aggOf v137) 1))) :: ((lstV (elems (at_ (aggOf v137) 2))) :: ((lstV (elems (at_ (aggOf v137) 3))) :: []))))⟩)]) fun v138 =>
                                                        (cnd
                                                          (cnd
                                                            (Prog.ret (Value.int IntKind.i64 (30 : Int)))
                                                            (p36_11 f x1 (blkOf v87) (offOf v87) (1 : Int))
                                                            (Bool.not (boolOf v138)))
                                                          Prog.fail
                                                          (okK Kd.bool v138)))
                                                      Prog.fail
                                                      ((isAggV v137) && (okKs ((Kd.int IntKind.i64) :: (Kd.lst :: (Kd.lst :: (Kd.lst :: [])))) (aggOf v137)))))
                                                    (loadT En 32 (blkOf v87) (offOf v87)))
                                                  (boolOf v136))
                                                Prog.fail
                                                (okK Kd.bool v136)))
                                            Prog.fail
                                            ((isAggV v135) && (okKs ((Kd.int IntKind.i64) :: (Kd.lst :: (Kd.lst :: (Kd.lst :: [])))) (aggOf v135)))))
                                          (loadT En 32 (blkOf v87) (offOf v87)))
                                        (boolOf v134))
                                      Prog.fail
                                      (okK Kd.bool v134)))
                                  Prog.fail
                                  ((isAggV v133) && (okKs ((Kd.int IntKind.i64) :: (Kd.lst :: (Kd.lst :: (Kd.lst :: [])))) (aggOf v133)))))
                                (loadT En 32 (blkOf v87) (offOf v87)))
                              (decide ((Int.ofNat (List.length (elems v132))) > (0 : Int))))
                            Prog.fail
                            (isLst v132)))
                          (loadT En 30 (blkOf v87) ((offOf v87) + 3)))
                        (callP (fun v139 =>
                          (cnd
                            (Prog.call (callF En (runP En f) 69 [(Value.agg ⟨((Value.int IntKind.i64 (intOf (at_ (aggOf v139) 0))) :: ((lstV (elems (at_ (aggOf v139) 1))) :: ((lstV (elems (at_ (aggOf v139) 2))) :: ((lstV (elems (at_ (aggOf v139) 3))) :: []))))⟩)]) fun v140 =>
                              (cnd
                                (cnd
                                  (Prog.ret (Value.int IntKind.i64 (6 : Int)))
                                  (callP (fun v141 =>
                                    (cnd
                                      (Prog.call (callF En (runP En f) 70 [(Value.agg ⟨((Value.int IntKind.i64 (intOf (at_ (aggOf v141) 0))) :: ((lstV (elems (at_ (aggOf v141) 1))) :: ((lstV (elems (at_ (aggOf v141) 2))) :: ((lstV (elems (at_ (aggOf v141) 3))) :: []))))⟩)]) fun v142 =>
                                        (cnd
                                          (cnd
                                            (Prog.ret (Value.int IntKind.i64 (1 : Int)))
                                            (callP (fun v143 =>
                                              (cnd
                                                (Prog.call (callF En (runP En f) 71 [(Value.agg ⟨((Value.int IntKind.i64 (intOf (at_ (aggOf v143) 0))) :: ((lstV (elems (at_ (aggOf v143) 1))) :: ((lstV (elems (at_ (aggOf v143) 2))) :: ((lstV (elems (at_ (aggOf v143) 3))) :: []))))⟩)]) fun v144 =>
                                                  (cnd
                                                    (cnd
                                                      (Prog.ret (Value.int IntKind.i64 (30 : Int)))
                                                      (p36_11 f x1 (blkOf v87) (offOf v87) (1 : Int))
                                                      (Bool.not (boolOf v144)))
                                                    Prog.fail
                                                    (okK Kd.bool v144)))
                                                Prog.fail
                                                ((isAggV v143) && (okKs ((Kd.int IntKind.i64) :: (Kd.lst :: (Kd.lst :: (Kd.lst :: [])))) (aggOf v143)))))
                                              (loadT En 32 (blkOf v87) (offOf v87)))
                                            (boolOf v142))
                                          Prog.fail
                                          (okK Kd.bool v142)))
                                      Prog.fail
                                      ((isAggV v141) && (okKs ((Kd.int IntKind.i64) :: (Kd.lst :: (Kd.lst :: (Kd.lst :: [])))) (aggOf v141)))))
                                    (loadT En 32 (blkOf v87) (offOf v87)))
                                  (boolOf v140))
                                Prog.fail
                                (okK Kd.bool v140)))
                            Prog.fail
                            ((isAggV v139) && (okKs ((Kd.int IntKind.i64) :: (Kd.lst :: (Kd.lst :: (Kd.lst :: [])))) (aggOf v139)))))
                          (loadT En 32 (blkOf v87) (offOf v87)))
                        (Bool.not (boolOf (at_ (tupOf v89) 2))))
                      (Bool.not (boolOf (at_ (tupOf v89) 1))))
                    (Bool.not (boolOf (at_ (tupOf v89) 0))))
                  (Bool.not (boolOf (at_ (tupOf v89) 3))))
                Prog.fail
                ((isTupV v89) && (okNs ((Nm.one Kd.bool) :: ((Nm.one Kd.bool) :: ((Nm.one Kd.bool) :: ((Nm.one Kd.bool) :: [])))) (tupOf v89)))))
            Prog.fail
            (okK (Kd.int IntKind.i64) v88)))
          (loadT En 3 (blkOf v87) ((offOf v87) + 0)))
        Prog.fail
        (isPt v87)))
      (Prog.newH (Hdr.mk 4 32 Bool.false Bool.true Bool.true 0 Bool.false Bool.false []) ((Value.int IntKind.i64 x0_0) :: ((lstV x0_1) :: ((lstV x0_2) :: ((lstV x0_3) :: [])))) (fun z86 => (Prog.ret (itP z86)))))) := by kernel_rfl
end Go.Proofs.YtmjbmbmnnephjaaGreatDoor
/- What comes of the points of a function: printed by the tool. -/
namespace Go.Proofs.YtmjbmbmnnephjaaGreatDoor
open Go Go.Ev Go.Proofs
set_option maxRecDepth 8000
set_option linter.unusedVariables false
noncomputable def p37_3 (f : Nat) (x1 : Nat) (x1o : Nat) (x3 : Int) (x4 : Int) : Prog := runP En f 37 (tmL 22 [(1, (Value.pointer (Option.some (Addr.mk x1 x1o Option.none)))), (3, (Value.int IntKind.i64 x3)), (4, (Value.int IntKind.i64 x4))]) [.code (cL (cL (cI (cI (cR (cL (cR (cR (cB 37))))))))), .code (cR (cL (cI (cI (cR (cL (cR (cR (cB 37))))))))), .code (cR (cI (cI (cR (cL (cR (cR (cB 37)))))))), .inLoop (cI (cI (cR (cL (cR (cR (cB 37))))))), .inBlock 0, .code (cR (cR (cR (cB 37))))] [] none
theorem p37_3_eq (f : Nat) (x1 : Nat) (x1o : Nat) (x3 : Int) (x4 : Int) : p37_3 (f + 1) x1 x1o x3 x4 =
  (callP (fun v3 =>
    (cnd
      (cnd
        (callP (fun v4 =>
          (cnd
            (cnd
              (cnd
                (cnd
                  (cnd
                    (Prog.call (callF En (runP En f) 37 [(Value.agg ⟨((Value.int IntKind.i64 (intOf (at_ (List.take 4 (Array.toList (Value.cells (at_ (elems v4) (Int.toNat x4))))) 0))) :: ((lstV (elems (at_ (List.take 4 (Array.toList (Value.cells (at_ (elems v4) (Int.toNat x4))))) 1))) :: ((lstV (elems (at_ (List.take 4 (Array.toList (Value.cells (at_ (elems v4) (Int.toNat x4))))) 2))) :: ((lstV (elems (at_ (List.take 4 (Array.toList (Value.cells (at_ (elems v4) (Int.toNat x4))))) 3))) :: []))))⟩)]) fun v5 =>
                      (cnd
                        (p37_3 f x1 x1o (if (x3 < (intOf v5)) then (intOf v5) else x3) (IntKind.wrap IntKind.i64 (x4 + (1 : Int))))
                        Prog.fail
                        (okK (Kd.int IntKind.i64) v5)))
                    Prog.fail
                    (okKs ((Kd.int IntKind.i64) :: (Kd.lst :: (Kd.lst :: (Kd.lst :: [])))) (List.take 4 (Array.toList (Value.cells (at_ (elems v4) (Int.toNat x4)))))))
                  Prog.fail
                  (Nat.ble 4 (List.length (Array.toList (Value.cells (at_ (elems v4) (Int.toNat x4)))))))
                Prog.fail
                (((Nat.ble (Nat.succ (Int.toNat x4)) (List.length (elems v4))) && Bool.true) && (hdOk 4 (elems v4))))
              Prog.fail
              (decide ((0 : Int) ≤ x4)))
            Prog.fail
            (isLst v4)))
          (loadT En 30 x1 (x1o + 3)))
        (Prog.ret (Value.int IntKind.i64 (IntKind.wrap IntKind.i64 (x3 + (1 : Int)))))
        (decide (x4 < (Int.ofNat (List.length (elems v3))))))
      Prog.fail
      (isLst v3)))
    (loadT En 30 x1 (x1o + 3))) := by kernel_rfl
theorem f37_eq (f : Nat) (x0_0 : Int) (x0_1 : List Value) (x0_2 : List Value) (x0_3 : List Value) : callF En (runP En (f + 1)) 37 [(Value.agg ⟨((Value.int IntKind.i64 x0_0) :: ((lstV x0_1) :: ((lstV x0_2) :: ((lstV x0_3) :: []))))⟩)] =
  (gd Bool.true
    (callP (fun v7 =>
      (cnd
        (p37_3 f (blkOf v7) (offOf v7) (0 : Int) (0 : Int))
        Prog.fail
        (isPt v7)))
      (Prog.newH (Hdr.mk 4 32 Bool.false Bool.true Bool.true 0 Bool.false Bool.false []) ((Value.int IntKind.i64 x0_0) :: ((lstV x0_1) :: ((lstV x0_2) :: ((lstV x0_3) :: [])))) (fun z6 => (Prog.ret (itP z6)))))) := by kernel_rfl
end Go.Proofs.YtmjbmbmnnephjaaGreatDoor
/- What comes of the points of a function: printed by the tool. -/
namespace Go.Proofs.YtmjbmbmnnephjaaGreatDoor
open Go Go.Ev Go.Proofs
set_option maxRecDepth 8000
set_option linter.unusedVariables false
noncomputable def p40_3 (f : Nat) (x0 : ByteArray) (x3 : Value) (x8 : Int) (x9 : Int) : Prog := runP En f 40 (tmL 47 [(0, (Value.string x0)), (3, x3), (8, (Value.int IntKind.i64 x8)), (9, (Value.int IntKind.i64 x9))]) [.code (cL (cI (cI (cR (cL (cR (cR (cB 40)))))))), .code (cR (cI (cI (cR (cL (cR (cR (cB 40)))))))), .inLoop (cI (cI (cR (cL (cR (cR (cB 40))))))), .inBlock 0, .code (cR (cR (cR (cB 40))))] [] none
noncomputable def p40_9 (f : Nat) (x0 : ByteArray) (x3 : Value) (x8 : Int) (x9 : Int) : Prog := runP En f 40 (tmL 47 [(0, (Value.string x0)), (3, x3), (8, (Value.int IntKind.i64 x8)), (9, (Value.int IntKind.i64 x9))]) [.code (cR (cR (cR (cI (cI (cR (cL (cR (cR (cB 40)))))))))), .inLoop (cI (cI (cR (cL (cR (cR (cB 40))))))), .inBlock 0, .code (cR (cR (cR (cB 40))))] [] none
theorem p40_3_eq (f : Nat) (x0 : ByteArray) (x3 : Value) (x8 : Int) (x9 : Int) : p40_3 (f + 1) x0 x3 x8 x9 =
  (cnd
    (cnd
      (cnd
        (cnd
          (cnd
            (cnd
              (cnd
                (Prog.seg (buildSliceA En 65 4 ((Prod.mk 0 (Value.int IntKind.u8 (92 : Int))) :: ((Prod.mk 1 (Value.int IntKind.u8 (120 : Int))) :: ((Prod.mk 2 (Value.int IntKind.u8 (Int.ofNat (byteAt (mkStr [48, 49, 50, 51, 52, 53, 54, 55, 56, 57, 97, 98, 99, 100, 101, 102]) (Int.toNat (IntKind.wrap IntKind.u8 (Int.ofNat (Nat.div (byteAt x0 (Int.toNat x9)) 16)))))))) :: ((Prod.mk 3 (Value.int IntKind.u8 (Int.ofNat (byteAt (mkStr [48, 49, 50, 51, 52, 53, 54, 55, 56, 57, 97, 98, 99, 100, 101, 102]) (Nat.mod (byteAt x0 (Int.toNat x9)) 16))))) :: []))))) fun v68 s69 _ =>
                  (Prog.seg (builtinA En Builtin.append (65 :: (65 :: [])) (x3 :: (v68 :: []))) fun v70 s71 _ =>
                    (gdL 255 (writesOf s71) s71 [⟨7, writesOf s69, s69⟩]
                      (p40_9 f x0 v70 x8 x9))))
                Prog.fail
                (Nat.ble (Nat.succ (Nat.mod (byteAt x0 (Int.toNat x9)) 16)) 16))
              Prog.fail
              (Nat.ble (Nat.succ (Int.toNat (IntKind.wrap IntKind.u8 (Int.ofNat (Nat.div (byteAt x0 (Int.toNat x9)) 16))))) 16))
            Prog.fail
            (decide ((0 : Int) ≤ (IntKind.wrap IntKind.u8 (Int.ofNat (Nat.div (byteAt x0 (Int.toNat x9)) 16))))))
          (cnd
            (cnd
              (cnd
                (cnd
                  (Prog.seg (buildSliceA En 65 4 ((Prod.mk 0 (Value.int IntKind.u8 (92 : Int))) :: ((Prod.mk 1 (Value.int IntKind.u8 (120 : Int))) :: ((Prod.mk 2 (Value.int IntKind.u8 (Int.ofNat (byteAt (mkStr [48, 49, 50, 51, 52, 53, 54, 55, 56, 57, 97, 98, 99, 100, 101, 102]) (Int.toNat (IntKind.wrap IntKind.u8 (Int.ofNat (Nat.div (byteAt x0 (Int.toNat x9)) 16)))))))) :: ((Prod.mk 3 (Value.int IntKind.u8 (Int.ofNat (byteAt (mkStr [48, 49, 50, 51, 52, 53, 54, 55, 56, 57, 97, 98, 99, 100, 101, 102]) (Nat.mod (byteAt x0 (Int.toNat x9)) 16))))) :: []))))) fun v72 s73 _ =>
                    (Prog.seg (builtinA En Builtin.append (65 :: (65 :: [])) (x3 :: (v72 :: []))) fun v74 s75 _ =>
                      (gdL 255 (writesOf s75) s75 [⟨7, writesOf s73, s73⟩]
                        (p40_9 f x0 v74 x8 x9))))
                  Prog.fail
                  (Nat.ble (Nat.succ (Nat.mod (byteAt x0 (Int.toNat x9)) 16)) 16))
                Prog.fail
                (Nat.ble (Nat.succ (Int.toNat (IntKind.wrap IntKind.u8 (Int.ofNat (Nat.div (byteAt x0 (Int.toNat x9)) 16))))) 16))
              Prog.fail
              (decide ((0 : Int) ≤ (IntKind.wrap IntKind.u8 (Int.ofNat (Nat.div (byteAt x0 (Int.toNat x9)) 16))))))
            (cnd
              (cnd
                (cnd
                  (cnd
                    (Prog.seg (buildSliceA En 65 4 ((Prod.mk 0 (Value.int IntKind.u8 (92 : Int))) :: ((Prod.mk 1 (Value.int IntKind.u8 (120 : Int))) :: ((Prod.mk 2 (Value.int IntKind.u8 (Int.ofNat (byteAt (mkStr [48, 49, 50, 51, 52, 53, 54, 55, 56, 57, 97, 98, 99, 100, 101, 102]) (Int.toNat (IntKind.wrap IntKind.u8 (Int.ofNat (Nat.div (byteAt x0 (Int.toNat x9)) 16)))))))) :: ((Prod.mk 3 (Value.int IntKind.u8 (Int.ofNat (byteAt (mkStr [48, 49, 50, 51, 52, 53, 54, 55, 56, 57, 97, 98, 99, 100, 101, 102]) (Nat.mod (byteAt x0 (Int.toNat x9)) 16))))) :: []))))) fun v76 s77 _ =>
                      (Prog.seg (builtinA En Builtin.append (65 :: (65 :: [])) (x3 :: (v76 :: []))) fun v78 s79 _ =>
                        (gdL 255 (writesOf s79) s79 [⟨7, writesOf s77, s77⟩]
                          (p40_9 f x0 v78 x8 x9))))
                    Prog.fail
                    (Nat.ble (Nat.succ (Nat.mod (byteAt x0 (Int.toNat x9)) 16)) 16))
                  Prog.fail
                  (Nat.ble (Nat.succ (Int.toNat (IntKind.wrap IntKind.u8 (Int.ofNat (Nat.div (byteAt x0 (Int.toNat x9)) 16))))) 16))
                Prog.fail
                (decide ((0 : Int) ≤ (IntKind.wrap IntKind.u8 (Int.ofNat (Nat.div (byteAt x0 (Int.toNat x9)) 16))))))
              (cnd
                (cnd
                  (cnd
                    (cnd
                      (Prog.seg (buildSliceA En 65 4 ((Prod.mk 0 (Value.int IntKind.u8 (92 : Int))) :: ((Prod.mk 1 (Value.int IntKind.u8 (120 : Int))) :: ((Prod.mk 2 (Value.int IntKind.u8 (Int.ofNat (byteAt (mkStr [48, 49, 50, 51, 52, 53, 54, 55, 56, 57, 97, 98, 99, 100, 101, 102]) (Int.toNat (IntKind.wrap IntKind.u8 (Int.ofNat (Nat.div (byteAt x0 (Int.toNat x9)) 16)))))))) :: ((Prod.mk 3 (Value.int IntKind.u8 (Int.ofNat (byteAt (mkStr [48, 49, 50, 51, 52, 53, 54, 55, 56, 57, 97, 98, 99, 100, 101, 102]) (Nat.mod (byteAt x0 (Int.toNat x9)) 16))))) :: []))))) fun v80 s81 _ =>
                        (Prog.seg (builtinA En Builtin.append (65 :: (65 :: [])) (x3 :: (v80 :: []))) fun v82 s83 _ =>
                          (gdL 255 (writesOf s83) s83 [⟨7, writesOf s81, s81⟩]
                            (p40_9 f x0 v82 x8 x9))))
                      Prog.fail
                      (Nat.ble (Nat.succ (Nat.mod (byteAt x0 (Int.toNat x9)) 16)) 16))
                    Prog.fail
                    (Nat.ble (Nat.succ (Int.toNat (IntKind.wrap IntKind.u8 (Int.ofNat (Nat.div (byteAt x0 (Int.toNat x9)) 16))))) 16))
                  Prog.fail
                  (decide ((0 : Int) ≤ (IntKind.wrap IntKind.u8 (Int.ofNat (Nat.div (byteAt x0 (Int.toNat x9)) 16))))))
                (callP (fun v84 =>
                  (p40_9 f x0 v84 x8 x9))
                  (builtinA En Builtin.append (65 :: (65 :: [])) (x3 :: ((xlstV ((Value.int IntKind.u8 (Int.ofNat (byteAt x0 (Int.toNat x9)))) :: [])) :: []))))
                (decide ((Int.ofNat (byteAt x0 (Int.toNat x9))) = (92 : Int))))
              (decide ((Int.ofNat (byteAt x0 (Int.toNat x9))) = (34 : Int))))
            (decide ((Int.ofNat (byteAt x0 (Int.toNat x9))) > (126 : Int))))
          (decide ((Int.ofNat (byteAt x0 (Int.toNat x9))) < (32 : Int))))
        Prog.fail
        (Nat.ble (Nat.succ (Int.toNat x9)) (List.length (Array.toList (ByteArray.data x0)))))
      Prog.fail
      (decide ((0 : Int) ≤ x9)))
    (callP (fun v85 =>
      (callP (fun v134 =>
        (Prog.ret v134))
        (convA En 65 9 v85)))
      (builtinA En Builtin.append (65 :: (65 :: [])) (x3 :: ((xlstV ((Value.int IntKind.u8 (34 : Int)) :: [])) :: []))))
    (decide (x9 < x8))) := by kernel_rfl
theorem p40_9_eq (f : Nat) (x0 : ByteArray) (x3 : Value) (x8 : Int) (x9 : Int) : p40_9 (f + 1) x0 x3 x8 x9 =
  (p40_3 f x0 x3 x8 (IntKind.wrap IntKind.i64 (x9 + (1 : Int)))) := by kernel_rfl
theorem f40_eq (f : Nat) (x0 : ByteArray) : callF En (runP En (f + 1)) 40 [(Value.string x0)] =
  (p40_3 f x0 (xlstV ((Value.int IntKind.u8 (34 : Int)) :: [])) (Int.ofNat (List.length (Array.toList (ByteArray.data x0)))) (0 : Int)) := by kernel_rfl
end Go.Proofs.YtmjbmbmnnephjaaGreatDoor
/- What comes of the points of a function: printed by the tool. -/
namespace Go.Proofs.YtmjbmbmnnephjaaGreatDoor
open Go Go.Ev Go.Proofs
set_option maxRecDepth 8000
set_option linter.unusedVariables false
theorem f43_eq (f : Nat) (x0 : Int) : callF En (runP En (f + 1)) 43 [(Value.int IntKind.u8 x0)] =
  (Prog.call (callF En (runP En f) 44 [(Value.int IntKind.u8 x0)]) fun v3 =>
    (cnd
      (cnd
        (Prog.ret (Value.bool Bool.true))
        (Prog.call (callF En (runP En f) 60 [(Value.int IntKind.u8 x0)]) fun v4 =>
          (cnd
            (cnd
              (Prog.ret (Value.bool Bool.true))
              (Prog.ret (Value.bool (decide (x0 = (95 : Int)))))
              (boolOf v4))
            Prog.fail
            (okK Kd.bool v4)))
        (boolOf v3))
      Prog.fail
      (okK Kd.bool v3))) := by kernel_rfl
end Go.Proofs.YtmjbmbmnnephjaaGreatDoor
/- What comes of the points of a function: printed by the tool. -/
namespace Go.Proofs.YtmjbmbmnnephjaaGreatDoor
open Go Go.Ev Go.Proofs
set_option maxRecDepth 8000
set_option linter.unusedVariables false
theorem f44_eq (f : Nat) (x0 : Int) : callF En (runP En (f + 1)) 44 [(Value.int IntKind.u8 x0)] =
  (cnd
    (cnd
      (Prog.ret (Value.bool Bool.true))
      (cnd
        (Prog.ret (Value.bool (decide (x0 ≤ (90 : Int)))))
        (Prog.ret (Value.bool Bool.false))
        (decide (x0 ≥ (65 : Int))))
      (decide (x0 ≤ (122 : Int))))
    (cnd
      (Prog.ret (Value.bool (decide (x0 ≤ (90 : Int)))))
      (Prog.ret (Value.bool Bool.false))
      (decide (x0 ≥ (65 : Int))))
    (decide (x0 ≥ (97 : Int)))) := by kernel_rfl
end Go.Proofs.YtmjbmbmnnephjaaGreatDoor
/- What comes of the points of a function: printed by the tool. -/
namespace Go.Proofs.YtmjbmbmnnephjaaGreatDoor
open Go Go.Ev Go.Proofs
set_option maxRecDepth 8000
set_option linter.unusedVariables false
theorem f59_eq (f : Nat) (x0 : Nat) (x1 : Int) : callF En (runP En (f + 1)) 59 [(Value.pointer (Option.some (Addr.mk x0 0 Option.none))), (Value.int IntKind.i64 x1)] =
  (Prog.seg (loadT En 3 x0 1) fun v9 s10 _ =>
    (cnd
      (Prog.seg (loadT En 9 x0 0) fun v11 s12 _ =>
        (gdL 448 (writesOf s12) s12 [⟨3, writesOf s10, s10⟩]
          (cnd
            (cnd
              (Prog.seg (loadT En 9 x0 0) fun v13 s14 _ =>
                (cnd
                  (Prog.seg (loadT En 3 x0 1) fun v15 s16 _ =>
                    (gdL 112 (writesOf s16) s16 [⟨3, writesOf s14, s14⟩]
                      (cnd
                        (cnd
                          (cnd
                            (Prog.ret (Value.int IntKind.u8 (Int.ofNat (byteAt (strOf v13) (Int.toNat (IntKind.wrap IntKind.i64 ((intOf v15) + x1)))))))
                            Prog.fail
                            (Nat.ble (Nat.succ (Int.toNat (IntKind.wrap IntKind.i64 ((intOf v15) + x1)))) (List.length (Array.toList (ByteArray.data (strOf v13))))))
                          Prog.fail
                          (decide ((0 : Int) ≤ (IntKind.wrap IntKind.i64 ((intOf v15) + x1)))))
                        Prog.fail
                        (okK (Kd.int IntKind.i64) v15))))
                  Prog.fail
                  (okK Kd.str v13)))
              (Prog.ret (Value.int IntKind.u8 (0 : Int)))
              (decide ((IntKind.wrap IntKind.i64 ((intOf v9) + x1)) < (Int.ofNat (List.length (Array.toList (ByteArray.data (strOf v11))))))))
            Prog.fail
            (okK Kd.str v11))))
      Prog.fail
      (okK (Kd.int IntKind.i64) v9))) := by kernel_rfl
end Go.Proofs.YtmjbmbmnnephjaaGreatDoor
/- What comes of the points of a function: printed by the tool. -/
namespace Go.Proofs.YtmjbmbmnnephjaaGreatDoor
open Go Go.Ev Go.Proofs
set_option maxRecDepth 8000
set_option linter.unusedVariables false
theorem f60_eq (f : Nat) (x0 : Int) : callF En (runP En (f + 1)) 60 [(Value.int IntKind.u8 x0)] =
  (cnd
    (Prog.ret (Value.bool (decide (x0 ≤ (57 : Int)))))
    (Prog.ret (Value.bool Bool.false))
    (decide (x0 ≥ (48 : Int)))) := by kernel_rfl
end Go.Proofs.YtmjbmbmnnephjaaGreatDoor
/- What comes of the points of a function: printed by the tool. -/
namespace Go.Proofs.YtmjbmbmnnephjaaGreatDoor
open Go Go.Ev Go.Proofs
set_option maxRecDepth 8000
set_option linter.unusedVariables false
theorem f61_eq (f : Nat) (x0 : Nat) : callF En (runP En (f + 1)) 61 [(Value.pointer (Option.some (Addr.mk x0 0 Option.none)))] =
  (Prog.call (callF En (runP En f) 59 [(Value.pointer (Option.some (Addr.mk x0 0 Option.none))), (Value.int IntKind.i64 (0 : Int))]) fun v32 =>
    (cnd
      (cnd
        (Prog.ret (Value.bool Bool.false))
        (Prog.call (callF En (runP En f) 59 [(Value.pointer (Option.some (Addr.mk x0 0 Option.none))), (Value.int IntKind.i64 (1 : Int))]) fun v33 =>
          (cnd
            (Prog.call (callF En (runP En f) 60 [(Value.int IntKind.u8 (intOf v33))]) fun v34 =>
              (cnd
                (cnd
                  (Prog.ret (Value.bool Bool.false))
                  (Prog.seg (loadT En 3 x0 1) fun v35 s36 _ =>
                    (cnd
                      (cnd
                        (Prog.ret (Value.bool Bool.true))
                        (Prog.seg (loadT En 9 x0 0) fun v37 s38 _ =>
                          (gdL 2047 (writesOf s38) s38 [⟨4, writesOf s36, s36⟩]
                            (cnd
                              (Prog.seg (loadT En 3 x0 1) fun v39 s40 _ =>
                                (gdL 61567 (writesOf s40) s40 [⟨11, writesOf s38, s38⟩, ⟨4, writesOf s36, s36⟩]
                                  (cnd
                                    (cnd
                                      (cnd
                                        (cnd
                                          (Prog.ret (Value.bool Bool.true))
                                          (Prog.seg (loadT En 23 x0 2) fun v41 s42 _ =>
                                            (cnd
                                              (Prog.seg (loadT En 23 x0 2) fun v43 s44 _ =>
                                                (gdL 112 (writesOf s44) s44 [⟨3, writesOf s42, s42⟩]
                                                  (cnd
                                                    (Prog.seg (builtinA En Builtin.len (23 :: []) ((Value.slice (Option.some (Addr.mk (sBlk v43) (sOff v43) Option.none)) (sLen v43) (sCap v43)) :: [])) fun v45 s46 _ =>
                                                      (gdL 240 (writesOf s46) s46 [⟨7, writesOf s44, s44⟩, ⟨3, writesOf s42, s42⟩]
                                                        (cnd
                                                          (cnd
                                                            (cnd
                                                              (Prog.seg (loadT En 34 (sBlk v41) ((sOff v41) + ((Int.toNat (IntKind.wrap IntKind.i64 ((intOf v45) + (-1 : Int)))) * 8))) fun v47 s48 _ =>
                                                                (gdL 2047 (writesOf s48) s48 [⟨8, writesOf s46, s46⟩, ⟨7, writesOf s44, s44⟩, ⟨3, writesOf s42, s42⟩]
                                                                  (cnd
                                                                    (Prog.seg (Prog.newH (Hdr.mk 8 34 Bool.false Bool.true Bool.true 0 Bool.false Bool.false []) ((Value.int IntKind.i64 (0 : Int)) :: ((Value.int IntKind.i64 (0 : Int)) :: ((Value.int IntKind.i64 (0 : Int)) :: ((Value.string (mkStr [])) :: ((Value.int IntKind.i64 (0 : Int)) :: ((Value.slice Option.none 0 0) :: ((Value.slice Option.none 0 0) :: ((Value.slice Option.none 0 0) :: [])))))))) (fun z49 => (Prog.ret (itP z49)))) fun v50 s51 _ =>
                                                                      (gdL 0 (writesOf s51) s51 [⟨11, writesOf s48, s48⟩, ⟨8, writesOf s46, s46⟩, ⟨7, writesOf s44, s44⟩, ⟨3, writesOf s42, s42⟩]
                                                                        (cnd
                                                                          (Prog.seg (storeT En 34 (blkOf v50) (offOf v50) (Value.agg ⟨((Value.int IntKind.i64 (intOf (at_ (aggOf v47) 0))) :: ((Value.int IntKind.i64 (intOf (at_ (aggOf v47) 1))) :: ((Value.int IntKind.i64 (intOf (at_ (aggOf v47) 2))) :: ((Value.string (strOf (at_ (aggOf v47) 3))) :: ((Value.int IntKind.i64 (intOf (at_ (aggOf v47) 4))) :: ((at_ (aggOf v47) 5) :: ((at_ (aggOf v47) 6) :: ((at_ (aggOf v47) 7) :: []))))))))⟩)) fun v52 s53 _ =>
                                                                            (gdL 8191 (writesOf s53) s53 [⟨12, writesOf s51, s51⟩, ⟨11, writesOf s48, s48⟩, ⟨8, writesOf s46, s46⟩, ⟨7, writesOf s44, s44⟩, ⟨3, writesOf s42, s42⟩]
                                                                              (callP (fun v54 =>
                                                                                (cnd
                                                                                  (cnd
                                                                                    (cnd
                                                                                      (Prog.ret (Value.bool Bool.true))
                                                                                      (callP (fun v55 =>
                                                                                        (cnd
                                                                                          (cnd
                                                                                            (callP (fun v56 =>
                                                                                              (cnd
                                                                                                (cnd
                                                                                                  (callP (fun v57 =>
                                                                                                    (cnd
                                                                                                      (cnd
                                                                                                        (callP (fun v58 =>
                                                                                                          (cnd
                                                                                                            (Prog.ret (Value.bool (Bool.not (beqB (Array.toList (ByteArray.data (strOf v58))) ((UInt8.ofBitVec (BitVec.ofFin (Fin.mk 125 (Nat.mod_lt 125 (BitVec.ofNat._proof_1 8))))) :: [])))))
                                                                                                            Prog.fail
                                                                                                            (okK Kd.str v58)))
                                                                                                          (loadT En 9 (blkOf v50) ((offOf v50) + 3)))
                                                                                                        (Prog.ret (Value.bool Bool.false))
                                                                                                        (Bool.not (beqB (Array.toList (ByteArray.data (strOf v57))) ((UInt8.ofBitVec (BitVec.ofFin (Fin.mk 93 (Nat.mod_lt 93 (BitVec.ofNat._proof_1 8))))) :: []))))
                                                                                                      Prog.fail
                                                                                                      (okK Kd.str v57)))
                                                                                                    (loadT En 9 (blkOf v50) ((offOf v50) + 3)))
                                                                                                  (Prog.ret (Value.bool Bool.false))
                                                                                                  (Bool.not (beqB (Array.toList (ByteArray.data (strOf v56))) ((UInt8.ofBitVec (BitVec.ofFin (Fin.mk 41 (Nat.mod_lt 41 (BitVec.ofNat._proof_1 8))))) :: []))))
                                                                                                Prog.fail
                                                                                                (okK Kd.str v56)))
                                                                                              (loadT En 9 (blkOf v50) ((offOf v50) + 3)))
                                                                                            (Prog.ret (Value.bool Bool.false))
                                                                                            (decide ((intOf v55) = (6 : Int))))
                                                                                          Prog.fail
                                                                                          (okK (Kd.int IntKind.i64) v55)))
                                                                                        (loadT En 3 (blkOf v50) ((offOf v50) + 0)))
                                                                                      (decide ((intOf v54) = (4 : Int))))
                                                                                    (cnd
                                                                                      (Prog.ret (Value.bool Bool.true))
                                                                                      (callP (fun v59 =>
                                                                                        (cnd
                                                                                          (cnd
                                                                                            (callP (fun v60 =>
                                                                                              (cnd
                                                                                                (cnd
                                                                                                  (callP (fun v61 =>
                                                                                                    (cnd
                                                                                                      (cnd
                                                                                                        (callP (fun v62 =>
                                                                                                          (cnd
                                                                                                            (Prog.ret (Value.bool (Bool.not (beqB (Array.toList (ByteArray.data (strOf v62))) ((UInt8.ofBitVec (BitVec.ofFin (Fin.mk 125 (Nat.mod_lt 125 (BitVec.ofNat._proof_1 8))))) :: [])))))
                                                                                                            Prog.fail
                                                                                                            (okK Kd.str v62)))
                                                                                                          (loadT En 9 (blkOf v50) ((offOf v50) + 3)))
                                                                                                        (Prog.ret (Value.bool Bool.false))
                                                                                                        (Bool.not (beqB (Array.toList (ByteArray.data (strOf v61))) ((UInt8.ofBitVec (BitVec.ofFin (Fin.mk 93 (Nat.mod_lt 93 (BitVec.ofNat._proof_1 8))))) :: []))))
                                                                                                      Prog.fail
                                                                                                      (okK Kd.str v61)))
                                                                                                    (loadT En 9 (blkOf v50) ((offOf v50) + 3)))
                                                                                                  (Prog.ret (Value.bool Bool.false))
                                                                                                  (Bool.not (beqB (Array.toList (ByteArray.data (strOf v60))) ((UInt8.ofBitVec (BitVec.ofFin (Fin.mk 41 (Nat.mod_lt 41 (BitVec.ofNat._proof_1 8))))) :: []))))
                                                                                                Prog.fail
                                                                                                (okK Kd.str v60)))
                                                                                              (loadT En 9 (blkOf v50) ((offOf v50) + 3)))
                                                                                            (Prog.ret (Value.bool Bool.false))
                                                                                            (decide ((intOf v59) = (6 : Int))))
                                                                                          Prog.fail
                                                                                          (okK (Kd.int IntKind.i64) v59)))
                                                                                        (loadT En 3 (blkOf v50) ((offOf v50) + 0)))
                                                                                      (decide ((intOf v54) = (5 : Int))))
                                                                                    (decide ((intOf v54) = (4 : Int))))
                                                                                  Prog.fail
                                                                                  (okK (Kd.int IntKind.i64) v54)))
                                                                                (loadT En 3 (blkOf v50) ((offOf v50) + 0)))))
                                                                          Prog.fail
                                                                          (isPt v50))))
                                                                    Prog.fail
                                                                    ((isAggV v47) && (okKs ((Kd.int IntKind.i64) :: ((Kd.int IntKind.i64) :: ((Kd.int IntKind.i64) :: (Kd.str :: ((Kd.int IntKind.i64) :: (Kd.raw :: (Kd.raw :: (Kd.raw :: [])))))))) (aggOf v47))))))
                                                              Prog.fail
                                                              ((Nat.ble (Nat.succ (Int.toNat (IntKind.wrap IntKind.i64 ((intOf v45) + (-1 : Int))))) (sLen v41)) && Bool.true))
                                                            Prog.fail
                                                            (decide ((0 : Int) ≤ (IntKind.wrap IntKind.i64 ((intOf v45) + (-1 : Int))))))
                                                          Prog.fail
                                                          (okK (Kd.int IntKind.i64) v45))))
                                                    Prog.fail
                                                    (isSl v43))))
                                              Prog.fail
                                              (isSl v41)))
                                          (decide ((Int.ofNat (byteAt (strOf v37) (Int.toNat (IntKind.wrap IntKind.i64 ((intOf v39) + (-1 : Int)))))) = (32 : Int))))
                                        Prog.fail
                                        (Nat.ble (Nat.succ (Int.toNat (IntKind.wrap IntKind.i64 ((intOf v39) + (-1 : Int))))) (List.length (Array.toList (ByteArray.data (strOf v37))))))
                                      Prog.fail
                                      (decide ((0 : Int) ≤ (IntKind.wrap IntKind.i64 ((intOf v39) + (-1 : Int))))))
                                    Prog.fail
                                    (okK (Kd.int IntKind.i64) v39))))
                              Prog.fail
                              (okK Kd.str v37))))
                        (decide ((intOf v35) = (0 : Int))))
                      Prog.fail
                      (okK (Kd.int IntKind.i64) v35)))
                  (Bool.not (boolOf v34)))
                Prog.fail
                (okK Kd.bool v34)))
            Prog.fail
            (okK (Kd.int IntKind.u8) v33)))
        (Bool.not (decide ((intOf v32) = (45 : Int)))))
      Prog.fail
      (okK (Kd.int IntKind.u8) v32))) := by kernel_rfl
end Go.Proofs.YtmjbmbmnnephjaaGreatDoor
