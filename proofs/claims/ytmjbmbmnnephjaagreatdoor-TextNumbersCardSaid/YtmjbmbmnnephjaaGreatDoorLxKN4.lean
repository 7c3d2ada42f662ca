/- What comes of the points of a function: printed by the tool. -/
import Derived.Test.YtmjbmbmnnephjaaGreatDoorLxKN3
namespace Go.Proofs.YtmjbmbmnnephjaaGreatDoor
open Go Go.Ev Go.Proofs
set_option maxRecDepth 8000
set_option linter.unusedVariables false
noncomputable def p9_3 (f : Nat) (x0 : Int) (x1 : Int) (x6 : Int) : Prog := runP En f 9 (tmL 72 [(0, (Value.int IntKind.i64 x0)), (1, (Value.int IntKind.i64 x1)), (5, (xlstV ((Value.int IntKind.i64 (2 : Int)) :: ((Value.int IntKind.i64 (4 : Int)) :: ((Value.int IntKind.i64 (5 : Int)) :: []))))), (6, (Value.int IntKind.i64 x6))]) [.code (cL (cL (cI (cI (cR (cL (cR (cR (cB 9))))))))), .code (cR (cL (cI (cI (cR (cL (cR (cR (cB 9))))))))), .code (cR (cI (cI (cR (cL (cR (cR (cB 9)))))))), .inLoop (cI (cI (cR (cL (cR (cR (cB 9))))))), .inBlock 0, .code (cR (cR (cR (cB 9))))] [] none
theorem p9_3_eq (f : Nat) (x0 : Int) (x1 : Int) (x6 : Int) : p9_3 (f + 1) x0 x1 x6 =
  (cnd
    (cnd
      (cnd
        (cnd
          (cnd
            (Prog.seg (callF En (runP En f) 31 [(Value.int IntKind.i64 (intOf (List.headD (Array.toList (Value.cells (at_ ((Value.int IntKind.i64 (2 : Int)) :: ((Value.int IntKind.i64 (4 : Int)) :: ((Value.int IntKind.i64 (5 : Int)) :: []))) (Int.toNat x6)))) (Value.tuple ⟨[]⟩)))), (Value.int IntKind.i64 x0)]) fun v1 s2 _ =>
              (cnd
                (cnd
                  (cnd
                    (cnd
                      (cnd
                        (Prog.seg (callF En (runP En f) 31 [(Value.int IntKind.i64 (intOf (List.headD (Array.toList (Value.cells (at_ ((Value.int IntKind.i64 (2 : Int)) :: ((Value.int IntKind.i64 (4 : Int)) :: ((Value.int IntKind.i64 (5 : Int)) :: []))) (Int.toNat x6)))) (Value.tuple ⟨[]⟩)))), (Value.int IntKind.i64 x1)]) fun v3 s4 _ =>
                          (gdL 2047 (writesOf s4) s4 [⟨5, writesOf s2, s2⟩]
                            (cnd
                              (Prog.call (callF En (runP En f) 25 [(Value.string (strOf v1))]) fun v5 =>
                                (cnd
                                  (callP (fun v7 =>
                                    (cnd
                                      (callP (fun v8 =>
                                        (cnd
                                          (Prog.ret (Value.bool Bool.false))
                                          (Prog.seg (callF En (runP En f) 27 [(Value.int IntKind.i64 (intOf (at_ (tupOf v5) 1)))]) fun v9 s10 _ =>
                                            (cnd
                                              (cnd
                                                (Prog.ret (Value.bool Bool.false))
                                                (Prog.seg (loadT En 3 (blkOf v7) ((offOf v7) + 0)) fun v11 s12 _ =>
                                                  (gdL 16383 (writesOf s12) s12 [⟨9, writesOf s10, s10⟩]
                                                    (cnd
                                                      (cnd
                                                        (cnd
                                                          (cnd
                                                            (cnd
                                                              (cnd
                                                                (Prog.ret (Value.bool Bool.false))
                                                                (Prog.seg (loadT En 28 (blkOf v7) ((offOf v7) + 1)) fun v13 s14 _ =>
                                                                  (gdL 16777215 (writesOf s14) s14 [⟨14, writesOf s12, s12⟩, ⟨9, writesOf s10, s10⟩]
                                                                    (cnd
                                                                      (Prog.seg (builtinA En Builtin.len (28 :: []) ((lstV (elems v13)) :: [])) fun v15 s16 _ =>
                                                                        (gdL 33554431 (writesOf s16) s16 [⟨24, writesOf s14, s14⟩, ⟨14, writesOf s12, s12⟩, ⟨9, writesOf s10, s10⟩]
                                                                          (cnd
                                                                            (cnd
                                                                              (Prog.ret (Value.bool Bool.false))
                                                                              (Prog.seg (loadT En 28 (blkOf v7) ((offOf v7) + 1)) fun v17 s18 _ =>
                                                                                (gdL 1073741823 (writesOf s18) s18 [⟨25, writesOf s16, s16⟩, ⟨24, writesOf s14, s14⟩, ⟨14, writesOf s12, s12⟩, ⟨9, writesOf s10, s10⟩]
                                                                                  (cnd
                                                                                    (cnd
                                                                                      (cnd
                                                                                        (cnd
                                                                                          (cnd
                                                                                            (Prog.ret (Value.bool Bool.false))
                                                                                            (p9_3 f x0 x1 (IntKind.wrap IntKind.i64 (x6 + (1 : Int))))
                                                                                            (Bool.not (decide ((intOf (List.headD (Array.toList (Value.cells (at_ (elems v17) 0))) (Value.tuple ⟨[]⟩))) = x0))))
                                                                                          Prog.fail
                                                                                          (okK (Kd.int IntKind.i64) (List.headD (Array.toList (Value.cells (at_ (elems v17) 0))) (Value.tuple ⟨[]⟩))))
                                                                                        Prog.fail
                                                                                        (Nat.ble 1 (List.length (Array.toList (Value.cells (at_ (elems v17) 0))))))
                                                                                      Prog.fail
                                                                                      (((Nat.ble 1 (List.length (elems v17))) && Bool.true) && (hdOk 1 (elems v17))))
                                                                                    Prog.fail
                                                                                    (isLst v17))))
                                                                              (Bool.not (decide ((intOf v15) = (1 : Int)))))
                                                                            Prog.fail
                                                                            (okK (Kd.int IntKind.i64) v15))))
                                                                      Prog.fail
                                                                      (isLst v13))))
                                                                (Bool.not (decide ((intOf v11) = (IntKind.wrap IntKind.i64 ((0 : Int) + (Int.neg (intOf (List.headD (Array.toList (Value.cells (at_ ((Value.int IntKind.i64 (2 : Int)) :: ((Value.int IntKind.i64 (4 : Int)) :: ((Value.int IntKind.i64 (5 : Int)) :: []))) (Int.toNat x6)))) (Value.tuple ⟨[]⟩))))))))))
                                                              Prog.fail
                                                              (okK (Kd.int IntKind.i64) (List.headD (Array.toList (Value.cells (at_ ((Value.int IntKind.i64 (2 : Int)) :: ((Value.int IntKind.i64 (4 : Int)) :: ((Value.int IntKind.i64 (5 : Int)) :: []))) (Int.toNat x6)))) (Value.tuple ⟨[]⟩))))
                                                            Prog.fail
                                                            (Nat.ble 1 (List.length (Array.toList (Value.cells (at_ ((Value.int IntKind.i64 (2 : Int)) :: ((Value.int IntKind.i64 (4 : Int)) :: ((Value.int IntKind.i64 (5 : Int)) :: []))) (Int.toNat x6)))))))
                                                          Prog.fail
                                                          (((Nat.ble (Nat.succ (Int.toNat x6)) 3) && Bool.true) && Bool.true))
                                                        Prog.fail
                                                        (decide ((0 : Int) ≤ x6)))
                                                      Prog.fail
                                                      (okK (Kd.int IntKind.i64) v11))))
                                                (Bool.not (decide ((intOf v9) = (0 : Int)))))
                                              Prog.fail
                                              (okK (Kd.int IntKind.i64) v9)))
                                          (Bool.not (decide ((beqB (Array.toList (ByteArray.data (strOf v1))) (Array.toList (ByteArray.data (strOf v3)))) = (decide (x0 = x1)))))))
                                        (storeT En 32 (blkOf v7) (offOf v7) (Value.agg ⟨((Value.int IntKind.i64 (intOf (at_ (aggOf (at_ (tupOf v5) 0)) 0))) :: ((lstV (elems (at_ (aggOf (at_ (tupOf v5) 0)) 1))) :: ((lstV (elems (at_ (aggOf (at_ (tupOf v5) 0)) 2))) :: ((lstV (elems (at_ (aggOf (at_ (tupOf v5) 0)) 3))) :: []))))⟩)))
                                      Prog.fail
                                      (isPt v7)))
                                    (Prog.newH (Hdr.mk 4 32 Bool.false Bool.true Bool.true 0 Bool.false Bool.false []) ((Value.int IntKind.i64 (0 : Int)) :: ((Value.slice Option.none 0 0) :: ((Value.slice Option.none 0 0) :: ((Value.slice Option.none 0 0) :: [])))) (fun z6 => (Prog.ret (itP z6)))))
                                  Prog.fail
                                  ((isTupV v5) && (okNs ((Nm.agg ((Kd.int IntKind.i64) :: (Kd.lst :: (Kd.lst :: (Kd.lst :: []))))) :: ((Nm.one (Kd.int IntKind.i64)) :: [])) (tupOf v5)))))
                              Prog.fail
                              (okK Kd.str v3))))
                        Prog.fail
                        (okK (Kd.int IntKind.i64) (List.headD (Array.toList (Value.cells (at_ ((Value.int IntKind.i64 (2 : Int)) :: ((Value.int IntKind.i64 (4 : Int)) :: ((Value.int IntKind.i64 (5 : Int)) :: []))) (Int.toNat x6)))) (Value.tuple ⟨[]⟩))))
                      Prog.fail
                      (Nat.ble 1 (List.length (Array.toList (Value.cells (at_ ((Value.int IntKind.i64 (2 : Int)) :: ((Value.int IntKind.i64 (4 : Int)) :: ((Value.int IntKind.i64 (5 : Int)) :: []))) (Int.toNat x6)))))))
                    Prog.fail
                    (((Nat.ble (Nat.succ (Int.toNat x6)) 3) && Bool.true) && Bool.true))
                  Prog.fail
                  (decide ((0 : Int) ≤ x6)))
                Prog.fail
                (okK Kd.str v1)))
            Prog.fail
            (okK (Kd.int IntKind.i64) (List.headD (Array.toList (Value.cells (at_ ((Value.int IntKind.i64 (2 : Int)) :: ((Value.int IntKind.i64 (4 : Int)) :: ((Value.int IntKind.i64 (5 : Int)) :: []))) (Int.toNat x6)))) (Value.tuple ⟨[]⟩))))
          Prog.fail
          (Nat.ble 1 (List.length (Array.toList (Value.cells (at_ ((Value.int IntKind.i64 (2 : Int)) :: ((Value.int IntKind.i64 (4 : Int)) :: ((Value.int IntKind.i64 (5 : Int)) :: []))) (Int.toNat x6)))))))
        Prog.fail
        (((Nat.ble (Nat.succ (Int.toNat x6)) 3) && Bool.true) && Bool.true))
      Prog.fail
      (decide ((0 : Int) ≤ x6)))
    (Prog.call (callF En (runP En f) 24 []) fun v19 =>
      (cnd
        (Prog.ret (Value.bool (boolOf v19)))
        Prog.fail
        (okK Kd.bool v19)))
    (decide (x6 < (3 : Int)))) := by kernel_rfl
theorem f9_eq (f : Nat) (x0 : Int) (x1 : Int) : callF En (runP En (f + 1)) 9 [(Value.int IntKind.i64 x0), (Value.int IntKind.i64 x1)] =
  (p9_3 f x0 x1 (0 : Int)) := by kernel_rfl
end Go.Proofs.YtmjbmbmnnephjaaGreatDoor
/- What comes of the points of a function: printed by the tool. -/
namespace Go.Proofs.YtmjbmbmnnephjaaGreatDoor
open Go Go.Ev Go.Proofs
set_option maxRecDepth 8000
set_option linter.unusedVariables false
noncomputable def p18_4 (f : Nat) (x2 : Nat) (x2o : Nat) (x3 : Nat) (x3o : Nat) (x5 : Int) : Prog := runP En f 18 (tmL 95 [(2, (Value.pointer (Option.some (Addr.mk x2 x2o Option.none)))), (3, (Value.pointer (Option.some (Addr.mk x3 x3o Option.none)))), (5, (Value.int IntKind.i64 x5))]) [.code (cL (cL (cI (cI (cR (cL (cR (cR (cB 18))))))))), .code (cR (cL (cI (cI (cR (cL (cR (cR (cB 18))))))))), .code (cR (cI (cI (cR (cL (cR (cR (cB 18)))))))), .inLoop (cI (cI (cR (cL (cR (cR (cB 18))))))), .inBlock 0, .code (cR (cR (cR (cB 18))))] [] none
noncomputable def p18_9 (f : Nat) (x2 : Nat) (x2o : Nat) (x3 : Nat) (x3o : Nat) (x6 : Int) : Prog := runP En f 18 (tmL 95 [(2, (Value.pointer (Option.some (Addr.mk x2 x2o Option.none)))), (3, (Value.pointer (Option.some (Addr.mk x3 x3o Option.none)))), (6, (Value.int IntKind.i64 x6))]) [.code (cL (cL (cI (cI (cR (cL (cR (cR (cR (cB 18)))))))))), .code (cR (cL (cI (cI (cR (cL (cR (cR (cR (cB 18)))))))))), .code (cR (cI (cI (cR (cL (cR (cR (cR (cB 18))))))))), .inLoop (cI (cI (cR (cL (cR (cR (cR (cB 18)))))))), .inBlock 2, .code (cR (cR (cR (cR (cB 18)))))] [] none
noncomputable def p18_14 (f : Nat) (x2 : Nat) (x2o : Nat) (x3 : Nat) (x3o : Nat) (x7 : Int) : Prog := runP En f 18 (tmL 95 [(2, (Value.pointer (Option.some (Addr.mk x2 x2o Option.none)))), (3, (Value.pointer (Option.some (Addr.mk x3 x3o Option.none)))), (7, (Value.int IntKind.i64 x7))]) [.code (cL (cL (cI (cI (cR (cL (cR (cR (cR (cR (cB 18))))))))))), .code (cR (cL (cI (cI (cR (cL (cR (cR (cR (cR (cB 18))))))))))), .code (cR (cI (cI (cR (cL (cR (cR (cR (cR (cB 18)))))))))), .inLoop (cI (cI (cR (cL (cR (cR (cR (cR (cB 18))))))))), .inBlock 4, .code (cR (cR (cR (cR (cR (cB 18))))))] [] none
theorem p18_4_eq (f : Nat) (x2 : Nat) (x2o : Nat) (x3 : Nat) (x3o : Nat) (x5 : Int) : p18_4 (f + 1) x2 x2o x3 x3o x5 =
  (callP (fun v30 =>
    (cnd
      (cnd
        (Prog.seg (loadT En 28 x2 (x2o + 1)) fun v31 s32 _ =>
          (cnd
            (cnd
              (cnd
                (cnd
                  (cnd
                    (Prog.seg (loadT En 28 x3 (x3o + 1)) fun v33 s34 _ =>
                      (gdL 32 (writesOf s34) s34 [⟨1, writesOf s32, s32⟩]
                        (cnd
                          (cnd
                            (cnd
                              (cnd
                                (cnd
                                  (cnd
                                    (Prog.ret (Value.bool Bool.false))
                                    (p18_4 f x2 x2o x3 x3o (IntKind.wrap IntKind.i64 (x5 + (1 : Int))))
                                    (Bool.not (decide ((intOf (List.headD (Array.toList (Value.cells (at_ (elems v31) (Int.toNat x5)))) (Value.tuple ⟨[]⟩))) = (intOf (List.headD (Array.toList (Value.cells (at_ (elems v33) (Int.toNat x5)))) (Value.tuple ⟨[]⟩)))))))
                                  Prog.fail
                                  (okK (Kd.int IntKind.i64) (List.headD (Array.toList (Value.cells (at_ (elems v33) (Int.toNat x5)))) (Value.tuple ⟨[]⟩))))
                                Prog.fail
                                (Nat.ble 1 (List.length (Array.toList (Value.cells (at_ (elems v33) (Int.toNat x5)))))))
                              Prog.fail
                              (((Nat.ble (Nat.succ (Int.toNat x5)) (List.length (elems v33))) && Bool.true) && (hdOk 1 (elems v33))))
                            Prog.fail
                            (decide ((0 : Int) ≤ x5)))
                          Prog.fail
                          (isLst v33))))
                    Prog.fail
                    (okK (Kd.int IntKind.i64) (List.headD (Array.toList (Value.cells (at_ (elems v31) (Int.toNat x5)))) (Value.tuple ⟨[]⟩))))
                  Prog.fail
                  (Nat.ble 1 (List.length (Array.toList (Value.cells (at_ (elems v31) (Int.toNat x5)))))))
                Prog.fail
                (((Nat.ble (Nat.succ (Int.toNat x5)) (List.length (elems v31))) && Bool.true) && (hdOk 1 (elems v31))))
              Prog.fail
              (decide ((0 : Int) ≤ x5)))
            Prog.fail
            (isLst v31)))
        (p18_9 f x2 x2o x3 x3o (0 : Int))
        (decide (x5 < (Int.ofNat (List.length (elems v30))))))
      Prog.fail
      (isLst v30)))
    (loadT En 28 x2 (x2o + 1))) := by kernel_rfl
theorem p18_9_eq (f : Nat) (x2 : Nat) (x2o : Nat) (x3 : Nat) (x3o : Nat) (x6 : Int) : p18_9 (f + 1) x2 x2o x3 x3o x6 =
  (callP (fun v35 =>
    (cnd
      (cnd
        (Prog.seg (loadT En 29 x2 (x2o + 2)) fun v36 s37 _ =>
          (cnd
            (cnd
              (cnd
                (cnd
                  (cnd
                    (Prog.seg (loadT En 29 x3 (x3o + 2)) fun v38 s39 _ =>
                      (gdL 32 (writesOf s39) s39 [⟨1, writesOf s37, s37⟩]
                        (cnd
                          (cnd
                            (cnd
                              (cnd
                                (cnd
                                  (cnd
                                    (Prog.ret (Value.bool Bool.false))
                                    (p18_9 f x2 x2o x3 x3o (IntKind.wrap IntKind.i64 (x6 + (1 : Int))))
                                    (Bool.not (beqB (Array.toList (ByteArray.data (strOf (List.headD (Array.toList (Value.cells (at_ (elems v36) (Int.toNat x6)))) (Value.tuple ⟨[]⟩))))) (Array.toList (ByteArray.data (strOf (List.headD (Array.toList (Value.cells (at_ (elems v38) (Int.toNat x6)))) (Value.tuple ⟨[]⟩))))))))
                                  Prog.fail
                                  (okK Kd.str (List.headD (Array.toList (Value.cells (at_ (elems v38) (Int.toNat x6)))) (Value.tuple ⟨[]⟩))))
                                Prog.fail
                                (Nat.ble 1 (List.length (Array.toList (Value.cells (at_ (elems v38) (Int.toNat x6)))))))
                              Prog.fail
                              (((Nat.ble (Nat.succ (Int.toNat x6)) (List.length (elems v38))) && Bool.true) && (hdOk 1 (elems v38))))
                            Prog.fail
                            (decide ((0 : Int) ≤ x6)))
                          Prog.fail
                          (isLst v38))))
                    Prog.fail
                    (okK Kd.str (List.headD (Array.toList (Value.cells (at_ (elems v36) (Int.toNat x6)))) (Value.tuple ⟨[]⟩))))
                  Prog.fail
                  (Nat.ble 1 (List.length (Array.toList (Value.cells (at_ (elems v36) (Int.toNat x6)))))))
                Prog.fail
                (((Nat.ble (Nat.succ (Int.toNat x6)) (List.length (elems v36))) && Bool.true) && (hdOk 1 (elems v36))))
              Prog.fail
              (decide ((0 : Int) ≤ x6)))
            Prog.fail
            (isLst v36)))
        (p18_14 f x2 x2o x3 x3o (0 : Int))
        (decide (x6 < (Int.ofNat (List.length (elems v35))))))
      Prog.fail
      (isLst v35)))
    (loadT En 29 x2 (x2o + 2))) := by kernel_rfl
theorem p18_14_eq (f : Nat) (x2 : Nat) (x2o : Nat) (x3 : Nat) (x3o : Nat) (x7 : Int) : p18_14 (f + 1) x2 x2o x3 x3o x7 =
  (callP (fun v40 =>
    (cnd
      (cnd
        (Prog.seg (loadT En 30 x2 (x2o + 3)) fun v41 s42 _ =>
          (cnd
            (cnd
              (cnd
                (cnd
                  (cnd
                    (Prog.seg (loadT En 30 x3 (x3o + 3)) fun v43 s44 _ =>
                      (gdL 32 (writesOf s44) s44 [⟨1, writesOf s42, s42⟩]
                        (cnd
                          (cnd
                            (cnd
                              (cnd
                                (cnd
                                  (Prog.seg (callF En (runP En f) 18 [(Value.agg ⟨((Value.int IntKind.i64 (intOf (at_ (List.take 4 (Array.toList (Value.cells (at_ (elems v41) (Int.toNat x7))))) 0))) :: ((lstV (elems (at_ (List.take 4 (Array.toList (Value.cells (at_ (elems v41) (Int.toNat x7))))) 1))) :: ((lstV (elems (at_ (List.take 4 (Array.toList (Value.cells (at_ (elems v41) (Int.toNat x7))))) 2))) :: ((lstV (elems (at_ (List.take 4 (Array.toList (Value.cells (at_ (elems v41) (Int.toNat x7))))) 3))) :: []))))⟩), (Value.agg ⟨((Value.int IntKind.i64 (intOf (at_ (List.take 4 (Array.toList (Value.cells (at_ (elems v43) (Int.toNat x7))))) 0))) :: ((lstV (elems (at_ (List.take 4 (Array.toList (Value.cells (at_ (elems v43) (Int.toNat x7))))) 1))) :: ((lstV (elems (at_ (List.take 4 (Array.toList (Value.cells (at_ (elems v43) (Int.toNat x7))))) 2))) :: ((lstV (elems (at_ (List.take 4 (Array.toList (Value.cells (at_ (elems v43) (Int.toNat x7))))) 3))) :: []))))⟩)]) fun v45 s46 _ =>
                                    (gdL 1023 (writesOf s46) s46 [⟨6, writesOf s44, s44⟩, ⟨1, writesOf s42, s42⟩]
                                      (cnd
                                        (cnd
                                          (Prog.ret (Value.bool Bool.false))
                                          (p18_14 f x2 x2o x3 x3o (IntKind.wrap IntKind.i64 (x7 + (1 : Int))))
                                          (Bool.not (boolOf v45)))
                                        Prog.fail
                                        (okK Kd.bool v45))))
                                  Prog.fail
                                  (okKs ((Kd.int IntKind.i64) :: (Kd.lst :: (Kd.lst :: (Kd.lst :: [])))) (List.take 4 (Array.toList (Value.cells (at_ (elems v43) (Int.toNat x7)))))))
                                Prog.fail
                                (Nat.ble 4 (List.length (Array.toList (Value.cells (at_ (elems v43) (Int.toNat x7)))))))
                              Prog.fail
                              (((Nat.ble (Nat.succ (Int.toNat x7)) (List.length (elems v43))) && Bool.true) && (hdOk 4 (elems v43))))
                            Prog.fail
                            (decide ((0 : Int) ≤ x7)))
                          Prog.fail
                          (isLst v43))))
                    Prog.fail
                    (okKs ((Kd.int IntKind.i64) :: (Kd.lst :: (Kd.lst :: (Kd.lst :: [])))) (List.take 4 (Array.toList (Value.cells (at_ (elems v41) (Int.toNat x7)))))))
                  Prog.fail
                  (Nat.ble 4 (List.length (Array.toList (Value.cells (at_ (elems v41) (Int.toNat x7)))))))
                Prog.fail
                (((Nat.ble (Nat.succ (Int.toNat x7)) (List.length (elems v41))) && Bool.true) && (hdOk 4 (elems v41))))
              Prog.fail
              (decide ((0 : Int) ≤ x7)))
            Prog.fail
            (isLst v41)))
        (Prog.ret (Value.bool Bool.true))
        (decide (x7 < (Int.ofNat (List.length (elems v40))))))
      Prog.fail
      (isLst v40)))
    (loadT En 30 x2 (x2o + 3))) := by kernel_rfl
theorem f18_eq (f : Nat) (x0_0 : Int) (x0_1 : List Value) (x0_2 : List Value) (x0_3 : List Value) (x1_0 : Int) (x1_1 : List Value) (x1_2 : List Value) (x1_3 : List Value) : callF En (runP En (f + 1)) 18 [(Value.agg ⟨((Value.int IntKind.i64 x0_0) :: ((lstV x0_1) :: ((lstV x0_2) :: ((lstV x0_3) :: []))))⟩), (Value.agg ⟨((Value.int IntKind.i64 x1_0) :: ((lstV x1_1) :: ((lstV x1_2) :: ((lstV x1_3) :: []))))⟩)] =
  (gd Bool.true
    (callP (fun v48 =>
      (cnd
        (gd Bool.true
          (callP (fun v50 =>
            (cnd
              (callP (fun v51 =>
                (cnd
                  (callP (fun v52 =>
                    (cnd
                      (cnd
                        (Prog.ret (Value.bool Bool.false))
                        (callP (fun v53 =>
                          (cnd
                            (callP (fun v54 =>
                              (cnd
                                (cnd
                                  (Prog.ret (Value.bool Bool.false))
                                  (callP (fun v55 =>
                                    (cnd
                                      (callP (fun v56 =>
                                        (cnd
                                          (cnd
                                            (Prog.ret (Value.bool Bool.false))
                                            (callP (fun v57 =>
                                              (cnd
                                                (callP (fun v58 =>
                                                  (cnd
                                                    (cnd
                                                      (Prog.ret (Value.bool Bool.false))
                                                      (p18_4 f (blkOf v48) (offOf v48) (blkOf v50) (offOf v50) (0 : Int))
                                                      (Bool.not (decide ((Int.ofNat (List.length (elems v57))) = (Int.ofNat (List.length (elems v58)))))))
                                                    Prog.fail
                                                    (isLst v58)))
                                                  (loadT En 30 (blkOf v50) ((offOf v50) + 3)))
                                                Prog.fail
                                                (isLst v57)))
                                              (loadT En 30 (blkOf v48) ((offOf v48) + 3)))
                                            (Bool.not (decide ((Int.ofNat (List.length (elems v55))) = (Int.ofNat (List.length (elems v56)))))))
                                          Prog.fail
                                          (isLst v56)))
                                        (loadT En 29 (blkOf v50) ((offOf v50) + 2)))
                                      Prog.fail
                                      (isLst v55)))
                                    (loadT En 29 (blkOf v48) ((offOf v48) + 2)))
                                  (Bool.not (decide ((Int.ofNat (List.length (elems v53))) = (Int.ofNat (List.length (elems v54)))))))
                                Prog.fail
                                (isLst v54)))
                              (loadT En 28 (blkOf v50) ((offOf v50) + 1)))
                            Prog.fail
                            (isLst v53)))
                          (loadT En 28 (blkOf v48) ((offOf v48) + 1)))
                        (Bool.not (decide ((intOf v51) = (intOf v52)))))
                      Prog.fail
                      (okK (Kd.int IntKind.i64) v52)))
                    (loadT En 3 (blkOf v50) ((offOf v50) + 0)))
                  Prog.fail
                  (okK (Kd.int IntKind.i64) v51)))
                (loadT En 3 (blkOf v48) ((offOf v48) + 0)))
              Prog.fail
              (isPt v50)))
            (Prog.newH (Hdr.mk 4 32 Bool.false Bool.true Bool.true 0 Bool.false Bool.false []) ((Value.int IntKind.i64 x1_0) :: ((lstV x1_1) :: ((lstV x1_2) :: ((lstV x1_3) :: [])))) (fun z49 => (Prog.ret (itP z49))))))
        Prog.fail
        (isPt v48)))
      (Prog.newH (Hdr.mk 4 32 Bool.false Bool.true Bool.true 0 Bool.false Bool.false []) ((Value.int IntKind.i64 x0_0) :: ((lstV x0_1) :: ((lstV x0_2) :: ((lstV x0_3) :: [])))) (fun z47 => (Prog.ret (itP z47)))))) := by kernel_rfl
end Go.Proofs.YtmjbmbmnnephjaaGreatDoor
/- What comes of the points of a function: printed by the tool. -/
namespace Go.Proofs.YtmjbmbmnnephjaaGreatDoor
open Go Go.Ev Go.Proofs
set_option maxRecDepth 8000
set_option linter.unusedVariables false
theorem f25_eq (f : Nat) (x0 : ByteArray) : callF En (runP En (f + 1)) 25 [(Value.string x0)] =
  (callP (fun v33 =>
    (cnd
      (cnd
        (gd Bool.true
          (callP (fun v34 =>
            (Prog.call (loadT En 32 (blkOf v33) (offOf v33)) fun v35 =>
              (frzT En 32 v35 fun v36 =>
                (Prog.ret (Value.tuple ⟨(v36 :: ((Value.int IntKind.i64 (1 : Int)) :: []))⟩)))))
            (storeT En 32 (blkOf v33) (offOf v33) (Value.agg ⟨((Value.int IntKind.i64 (0 : Int)) :: ((Value.slice Option.none 0 0) :: ((Value.slice Option.none 0 0) :: ((Value.slice Option.none 0 0) :: []))))⟩))))
        (gd Bool.true
          (gd Bool.true
            (gd Bool.true
              (callP (fun v38 =>
                (cnd
                  (Prog.call (callF En (runP En f) 48 [(Value.pointer (Option.some (Addr.mk (blkOf v38) (offOf v38) Option.none)))]) fun v39 =>
                    (cnd
                      (callP (fun v41 =>
                        (cnd
                          (callP (fun v42 =>
                            (callP (fun v43 =>
                              (cnd
                                (cnd
                                  (gd Bool.true
                                    (callP (fun v44 =>
                                      (Prog.call (loadT En 32 (blkOf v33) (offOf v33)) fun v45 =>
                                        (frzT En 32 v45 fun v46 =>
                                          (Prog.ret (Value.tuple ⟨(v46 :: ((Value.int IntKind.i64 (41 : Int)) :: []))⟩)))))
                                      (storeT En 32 (blkOf v33) (offOf v33) (Value.agg ⟨((Value.int IntKind.i64 (0 : Int)) :: ((Value.slice Option.none 0 0) :: ((Value.slice Option.none 0 0) :: ((Value.slice Option.none 0 0) :: []))))⟩))))
                                  (callP (fun v47 =>
                                    (cnd
                                      (cnd
                                        (gd Bool.true
                                          (callP (fun v48 =>
                                            (Prog.call (loadT En 32 (blkOf v33) (offOf v33)) fun v49 =>
                                              (frzT En 32 v49 fun v50 =>
                                                (Prog.ret (Value.tuple ⟨(v50 :: ((Value.int IntKind.i64 (41 : Int)) :: []))⟩)))))
                                            (storeT En 32 (blkOf v33) (offOf v33) (Value.agg ⟨((Value.int IntKind.i64 (0 : Int)) :: ((Value.slice Option.none 0 0) :: ((Value.slice Option.none 0 0) :: ((Value.slice Option.none 0 0) :: []))))⟩))))
                                        (callP (fun v51 =>
                                          (cnd
                                            (Prog.call (callF En (runP En f) 29 [(Value.agg ⟨((Value.int IntKind.i64 (intOf (at_ (aggOf v51) 0))) :: ((lstV (elems (at_ (aggOf v51) 1))) :: ((lstV (elems (at_ (aggOf v51) 2))) :: ((lstV (elems (at_ (aggOf v51) 3))) :: []))))⟩)]) fun v52 =>
                                              (cnd
                                                (cnd
                                                  (gd Bool.true
                                                    (callP (fun v53 =>
                                                      (Prog.call (loadT En 32 (blkOf v33) (offOf v33)) fun v54 =>
                                                        (frzT En 32 v54 fun v55 =>
                                                          (Prog.ret (Value.tuple ⟨(v55 :: ((Value.int IntKind.i64 (41 : Int)) :: []))⟩)))))
                                                      (storeT En 32 (blkOf v33) (offOf v33) (Value.agg ⟨((Value.int IntKind.i64 (0 : Int)) :: ((Value.slice Option.none 0 0) :: ((Value.slice Option.none 0 0) :: ((Value.slice Option.none 0 0) :: []))))⟩))))
                                                  (cnd
                                                    (gd Bool.true
                                                      (callP (fun v56 =>
                                                        (Prog.call (loadT En 32 (blkOf v33) (offOf v33)) fun v57 =>
                                                          (frzT En 32 v57 fun v58 =>
                                                            (Prog.ret (Value.tuple ⟨(v58 :: ((Value.int IntKind.i64 (41 : Int)) :: []))⟩)))))
                                                        (storeT En 32 (blkOf v33) (offOf v33) (Value.agg ⟨((Value.int IntKind.i64 (0 : Int)) :: ((Value.slice Option.none 0 0) :: ((Value.slice Option.none 0 0) :: ((Value.slice Option.none 0 0) :: []))))⟩))))
                                                    (callP (fun v59 =>
                                                      (cnd
                                                        (callP (fun v60 =>
                                                          (Prog.call (loadT En 32 (blkOf v33) (offOf v33)) fun v61 =>
                                                            (frzT En 32 v61 fun v62 =>
                                                              (Prog.ret (Value.tuple ⟨(v62 :: ((Value.int IntKind.i64 (0 : Int)) :: []))⟩)))))
                                                          (storeT En 32 (blkOf v33) (offOf v33) (Value.agg ⟨((Value.int IntKind.i64 (intOf (at_ (aggOf v59) 0))) :: ((lstV (elems (at_ (aggOf v59) 1))) :: ((lstV (elems (at_ (aggOf v59) 2))) :: ((lstV (elems (at_ (aggOf v59) 3))) :: []))))⟩)))
                                                        Prog.fail
                                                        ((isAggV v59) && (okKs ((Kd.int IntKind.i64) :: (Kd.lst :: (Kd.lst :: (Kd.lst :: [])))) (aggOf v59)))))
                                                      (loadT En 32 (blkOf v41) (offOf v41)))
                                                    (Bool.not (beqB (Array.toList (ByteArray.data (strOf (at_ (tupOf v52) 0)))) (Array.toList (ByteArray.data x0)))))
                                                  (Bool.not (decide ((intOf (at_ (tupOf v52) 1)) = (0 : Int)))))
                                                Prog.fail
                                                ((isTupV v52) && (okNs ((Nm.one Kd.str) :: ((Nm.one (Kd.int IntKind.i64)) :: [])) (tupOf v52)))))
                                            Prog.fail
                                            ((isAggV v51) && (okKs ((Kd.int IntKind.i64) :: (Kd.lst :: (Kd.lst :: (Kd.lst :: [])))) (aggOf v51)))))
                                          (loadT En 32 (blkOf v41) (offOf v41)))
                                        (Bool.not (beqB (Array.toList (ByteArray.data (strOf v47))) [])))
                                      Prog.fail
                                      (okK Kd.str v47)))
                                    (loadT En 9 (blkOf v38) (((offOf v38) + 0) + 0)))
                                  (boolOf v43))
                                Prog.fail
                                (okK Kd.bool v43)))
                              (loadT En 4 (blkOf v38) (((offOf v38) + 0) + 1))))
                            (storeT En 32 (blkOf v41) (offOf v41) (Value.agg ⟨((Value.int IntKind.i64 (intOf (at_ (aggOf v39) 0))) :: ((lstV (elems (at_ (aggOf v39) 1))) :: ((lstV (elems (at_ (aggOf v39) 2))) :: ((lstV (elems (at_ (aggOf v39) 3))) :: []))))⟩)))
                          Prog.fail
                          (isPt v41)))
                        (Prog.newH (Hdr.mk 4 32 Bool.false Bool.true Bool.true 0 Bool.false Bool.false []) ((Value.int IntKind.i64 (0 : Int)) :: ((Value.slice Option.none 0 0) :: ((Value.slice Option.none 0 0) :: ((Value.slice Option.none 0 0) :: [])))) (fun z40 => (Prog.ret (itP z40)))))
                      Prog.fail
                      ((isAggV v39) && (okKs ((Kd.int IntKind.i64) :: (Kd.lst :: (Kd.lst :: (Kd.lst :: [])))) (aggOf v39)))))
                  Prog.fail
                  (isPt v38)))
                (Prog.newH (Hdr.mk 3 74 Bool.false Bool.true Bool.true 0 Bool.false Bool.false []) ((Value.string x0) :: ((Value.bool Bool.false) :: ((Value.int IntKind.i64 (0 : Int)) :: []))) (fun z37 => (Prog.ret (itP z37))))))))
        (decide ((Int.ofNat (List.length (Array.toList (ByteArray.data x0)))) > (65536 : Int))))
      Prog.fail
      (isPt v33)))
    (Prog.newH (Hdr.mk 4 32 Bool.false Bool.true Bool.true 0 Bool.false Bool.false []) ((Value.int IntKind.i64 (0 : Int)) :: ((Value.slice Option.none 0 0) :: ((Value.slice Option.none 0 0) :: ((Value.slice Option.none 0 0) :: [])))) (fun z32 => (Prog.ret (itP z32))))) := by kernel_rfl
end Go.Proofs.YtmjbmbmnnephjaaGreatDoor
/- What comes of the points of a function: printed by the tool. -/
namespace Go.Proofs.YtmjbmbmnnephjaaGreatDoor
open Go Go.Ev Go.Proofs
set_option maxRecDepth 8000
set_option linter.unusedVariables false
theorem f27_eq (f : Nat) (x0 : Int) : callF En (runP En (f + 1)) 27 [(Value.int IntKind.i64 x0)] =
  (Prog.ret (Value.int IntKind.i64 x0)) := by kernel_rfl
end Go.Proofs.YtmjbmbmnnephjaaGreatDoor
/- What comes of the points of a function: printed by the tool. -/
namespace Go.Proofs.YtmjbmbmnnephjaaGreatDoor
open Go Go.Ev Go.Proofs
set_option maxRecDepth 8000
set_option linter.unusedVariables false
theorem f29_eq (f : Nat) (x0_0 : Int) (x0_1 : List Value) (x0_2 : List Value) (x0_3 : List Value) : callF En (runP En (f + 1)) 29 [(Value.agg ⟨((Value.int IntKind.i64 x0_0) :: ((lstV x0_1) :: ((lstV x0_2) :: ((lstV x0_3) :: []))))⟩)] =
  (gd Bool.true
    (callP (fun v14 =>
      (cnd
        (callP (fun v15 =>
          (cnd
            (Prog.call (callF En (runP En f) 51 [(Value.agg ⟨((Value.int IntKind.i64 (intOf (at_ (aggOf v15) 0))) :: ((lstV (elems (at_ (aggOf v15) 1))) :: ((lstV (elems (at_ (aggOf v15) 2))) :: ((lstV (elems (at_ (aggOf v15) 3))) :: []))))⟩)]) fun v16 =>
              (cnd
                (cnd
                  (Prog.ret (Value.tuple ⟨((Value.string (mkStr [])) :: ((Value.int IntKind.i64 (intOf v16)) :: []))⟩))
                  (callP (fun v17 =>
                    (cnd
                      (Prog.call (callF En (runP En f) 52 [(Value.agg ⟨((Value.int IntKind.i64 (intOf (at_ (aggOf v17) 0))) :: ((lstV (elems (at_ (aggOf v17) 1))) :: ((lstV (elems (at_ (aggOf v17) 2))) :: ((lstV (elems (at_ (aggOf v17) 3))) :: []))))⟩)]) fun v18 =>
                        (cnd
                          (cnd
                            (Prog.ret (Value.tuple ⟨((Value.string (mkStr [])) :: ((Value.int IntKind.i64 (40 : Int)) :: []))⟩))
                            (callP (fun v20 =>
                              (cnd
                                (callP (fun v21 =>
                                  (cnd
                                    (Prog.call (callF En (runP En f) 53 [(Value.pointer (Option.some (Addr.mk (blkOf v20) (offOf v20) Option.none))), (Value.agg ⟨((Value.int IntKind.i64 (intOf (at_ (aggOf v21) 0))) :: ((lstV (elems (at_ (aggOf v21) 1))) :: ((lstV (elems (at_ (aggOf v21) 2))) :: ((lstV (elems (at_ (aggOf v21) 3))) :: []))))⟩)]) fun v22 =>
                                      (cnd
                                        (Prog.call (callF En (runP En f) 54 [(Value.pointer (Option.some (Addr.mk (blkOf v20) (offOf v20) Option.none)))]) fun v23 =>
                                          (cnd
                                            (cnd
                                              (Prog.ret (Value.tuple ⟨((Value.string (mkStr [])) :: ((Value.int IntKind.i64 (1 : Int)) :: []))⟩))
                                              (Prog.call (callF En (runP En f) 55 [(Value.pointer (Option.some (Addr.mk (blkOf v20) (offOf v20) Option.none)))]) fun v24 =>
                                                (cnd
                                                  (Prog.ret (Value.tuple ⟨((Value.string (strOf v24)) :: ((Value.int IntKind.i64 (0 : Int)) :: []))⟩))
                                                  Prog.fail
                                                  (okK Kd.str v24)))
                                              (decide ((intOf v23) > (65536 : Int))))
                                            Prog.fail
                                            (okK (Kd.int IntKind.i64) v23)))
                                        Prog.fail
                                        ((isTupV v22) && (okNs [] (tupOf v22)))))
                                    Prog.fail
                                    ((isAggV v21) && (okKs ((Kd.int IntKind.i64) :: (Kd.lst :: (Kd.lst :: (Kd.lst :: [])))) (aggOf v21)))))
                                  (loadT En 32 (blkOf v14) (offOf v14)))
                                Prog.fail
                                (isPt v20)))
                              (Prog.newH (Hdr.mk 2 84 Bool.false Bool.true Bool.true 0 Bool.false Bool.false []) ((Value.pointer Option.none) :: ((Value.slice Option.none 0 0) :: [])) (fun z19 => (Prog.ret (itP z19)))))
                            (Bool.not (boolOf v18)))
                          Prog.fail
                          (okK Kd.bool v18)))
                      Prog.fail
                      ((isAggV v17) && (okKs ((Kd.int IntKind.i64) :: (Kd.lst :: (Kd.lst :: (Kd.lst :: [])))) (aggOf v17)))))
                    (loadT En 32 (blkOf v14) (offOf v14)))
                  (Bool.not (decide ((intOf v16) = (0 : Int)))))
                Prog.fail
                (okK (Kd.int IntKind.i64) v16)))
            Prog.fail
            ((isAggV v15) && (okKs ((Kd.int IntKind.i64) :: (Kd.lst :: (Kd.lst :: (Kd.lst :: [])))) (aggOf v15)))))
          (loadT En 32 (blkOf v14) (offOf v14)))
        Prog.fail
        (isPt v14)))
      (Prog.newH (Hdr.mk 4 32 Bool.false Bool.true Bool.true 0 Bool.false Bool.false []) ((Value.int IntKind.i64 x0_0) :: ((lstV x0_1) :: ((lstV x0_2) :: ((lstV x0_3) :: [])))) (fun z13 => (Prog.ret (itP z13)))))) := by kernel_rfl
end Go.Proofs.YtmjbmbmnnephjaaGreatDoor
/- What comes of the points of a function: printed by the tool. -/
namespace Go.Proofs.YtmjbmbmnnephjaaGreatDoor
open Go Go.Ev Go.Proofs
set_option maxRecDepth 8000
set_option linter.unusedVariables false
noncomputable def p31_3 (f : Nat) (x0 : Int) (x1 : Int) : Prog := runP En f 31 (tmL 72 [(0, (Value.int IntKind.i64 x0)), (1, (Value.int IntKind.i64 x1))]) [.code (cL (cR (cR (cB 31)))), .code (cR (cR (cR (cB 31))))] [] none
noncomputable def p31_12 (f : Nat) (x0 : Int) (x1 : Int) (x6 : ByteArray) : Prog := runP En f 31 (tmL 72 [(0, (Value.int IntKind.i64 x0)), (1, (Value.int IntKind.i64 x1)), (6, (Value.string x6))]) [.code (cL (cL (cR (cR (cR (cR (cR (cB 31)))))))), .code (cR (cL (cR (cR (cR (cR (cR (cB 31)))))))), .code (cR (cR (cR (cR (cR (cR (cB 31)))))))] [] none
noncomputable def p31_17 (f : Nat) (x8 : ByteArray) (x9 : Int) : Prog := runP En f 31 (tmL 72 [(8, (Value.string x8)), (9, (Value.int IntKind.u64 x9))]) [.code (cL (cR (cR (cR (cR (cR (cR (cR (cR (cB 31)))))))))), .code (cR (cR (cR (cR (cR (cR (cR (cR (cR (cB 31))))))))))] [] none
theorem p31_3_eq (f : Nat) (x0 : Int) (x1 : Int) : p31_3 (f + 1) x0 x1 =
  (callP (fun v27 =>
    (callP (fun v28 =>
      (callP (fun v29 =>
        (callP (fun v30 =>
          (callP (fun v31 =>
            (gd Bool.true
              (callP (fun v43 =>
                (callP (fun v44 =>
                  (cnd
                    (callP (fun v45 =>
                      (cnd
                        (cnd
                          (Prog.ret (Value.string (mkStr [])))
                          (cnd
                            (p31_12 f x0 x1 (strOf v44))
                            (cnd
                              (cnd
                                (Prog.ret (Value.string (mkStr [48, 78, 100])))
                                (cnd
                                  (cnd
                                    (Prog.ret (Value.string (mkStr ((48 : UInt8) :: ((78 : UInt8) :: (Array.toList (ByteArray.data (strOf v44))))))))
                                    Prog.fail
                                    (Nat.ble (2 + (List.length (Array.toList (ByteArray.data (strOf v44))))) 9223372036854775807))
                                  (p31_12 f x0 x1 (strOf v44))
                                  (decide (x1 = (-9223372036854775808 : Int))))
                                (decide (x0 = (5 : Int))))
                              (cnd
                                (cnd
                                  (Prog.ret (Value.string (mkStr ((48 : UInt8) :: ((78 : UInt8) :: (Array.toList (ByteArray.data (strOf v44))))))))
                                  Prog.fail
                                  (Nat.ble (2 + (List.length (Array.toList (ByteArray.data (strOf v44))))) 9223372036854775807))
                                (p31_12 f x0 x1 (strOf v44))
                                (decide (x1 = (-9223372036854775808 : Int))))
                              (decide (x1 = (-9223372036854775808 : Int))))
                            (decide (x0 = (1 : Int))))
                          (Bool.not (boolOf v45)))
                        Prog.fail
                        (okK Kd.bool v45)))
                      (plainOp En (evO tm0) (Op.extract (Operand.const v43) 1)))
                    Prog.fail
                    (okK Kd.str v44)))
                  (plainOp En (evO tm0) (Op.extract (Operand.const v43) 0))))
                (opt (Option.some (Value.string (mkStr []))) (fun z32 => (match evO tm0 (Operand.const v27) with | Value.map Option.none => Prog.ret (okV Bool.true z32 Bool.false) | Value.map (Option.some z35) => (Prog.obj z35 (fun z36 => (opt (entsOf z36) (fun z37 => (opt (findK (TypeInfo.desc (TypeInfo.mk (TypeDesc.int IntKind.i64) "int" (OfNat.ofNat 1) (OfNat.ofNat 8) Bool.false (OfNat.ofNat 8) (OfNat.ofNat 8) (Option.some (Value.int IntKind.i64 (OfNat.ofNat 0))) Bool.true (List.toArray []))) (evO tm0 (Operand.const (Value.int IntKind.i64 x0))) (Prod.fst z37) (OfNat.ofNat 0)) (fun z38 => (match z38 with | Option.some z40 => (Prog.ret (okV Bool.true (MapEntry.val (Prod.snd z40)) Bool.true)) | Option.none => (Prog.ret (okV Bool.true z32 Bool.false)))))))))  | _ => Prog.fail))))))
            (mapSet En 88 v27 (Value.int IntKind.i64 (5 : Int)) (Value.string (mkStr [])))))
          (mapSet En 88 v27 (Value.int IntKind.i64 (4 : Int)) (Value.string (mkStr [116])))))
        (mapSet En 88 v27 (Value.int IntKind.i64 (2 : Int)) (Value.string (mkStr [])))))
      (mapSet En 88 v27 (Value.int IntKind.i64 (1 : Int)) (Value.string (mkStr [98])))))
    (Prog.newObj (Slot.mp [] 0) (fun z26 => (Prog.ret (Value.map (Option.some z26)))))) := by kernel_rfl
theorem p31_12_eq (f : Nat) (x0 : Int) (x1 : Int) (x6 : ByteArray) : p31_12 (f + 1) x0 x1 x6 =
  (cnd
    (Prog.call (callF En (runP En f) 56 [(Value.int IntKind.i64 x1), (Value.int IntKind.i64 (10 : Int))]) fun v46 =>
      (cnd
        (cnd
          (Prog.ret (Value.string (mkStr ((Array.toList (ByteArray.data (strOf v46))) ++ (Array.toList (ByteArray.data x6))))))
          Prog.fail
          (Nat.ble ((List.length (Array.toList (ByteArray.data (strOf v46)))) + (List.length (Array.toList (ByteArray.data x6)))) 9223372036854775807))
        Prog.fail
        (okK Kd.str v46)))
    (cnd
      (p31_17 f (mkStr [45]) (IntKind.wrap IntKind.u64 ((0 : Int) + (Int.neg (IntKind.wrap IntKind.u64 x1)))))
      (p31_17 f (mkStr []) (IntKind.wrap IntKind.u64 x1))
      (decide (x1 < (0 : Int))))
    (Bool.not (decide (x0 = (5 : Int))))) := by kernel_rfl
theorem p31_17_eq (f : Nat) (x8 : ByteArray) (x9 : Int) : p31_17 (f + 1) x8 x9 =
  (Prog.call (callF En (runP En f) 57 [(Value.int IntKind.u64 (IntKind.wrap IntKind.u64 ((10000 : Int) + (Int.tmod x9 (10000 : Int))))), (Value.int IntKind.i64 (10 : Int))]) fun v47 =>
    (cnd
      (cnd
        (cnd
          (cnd
            (Prog.seg (callF En (runP En f) 58 [(Value.string (mkStr (List.take ((List.length (List.take ((List.length (Array.toList (ByteArray.data (strOf v47)))) - 1) (List.drop 1 (Array.toList (ByteArray.data (strOf v47)))))) - 1) (List.drop 1 (List.take ((List.length (Array.toList (ByteArray.data (strOf v47)))) - 1) (List.drop 1 (Array.toList (ByteArray.data (strOf v47))))))))), (Value.string (mkStr [48]))]) fun v48 s49 _ =>
              (cnd
                (cnd
                  (Prog.call (callF En (runP En f) 57 [(Value.int IntKind.u64 (IntKind.wrap IntKind.u64 (Int.tdiv x9 (10000 : Int)))), (Value.int IntKind.i64 (10 : Int))]) fun v50 =>
                    (cnd
                      (cnd
                        (cnd
                          (cnd
                            (Prog.ret (Value.string (mkStr ((((Array.toList (ByteArray.data x8)) ++ (Array.toList (ByteArray.data (strOf v50)))) ++ ((46 : UInt8) :: [])) ++ ((List.take 1 (List.take ((List.length (Array.toList (ByteArray.data (strOf v47)))) - 1) (List.drop 1 (Array.toList (ByteArray.data (strOf v47)))))) ++ (Array.toList (ByteArray.data (strOf v48))))))))
                            Prog.fail
                            (Nat.ble ((List.length (((Array.toList (ByteArray.data x8)) ++ (Array.toList (ByteArray.data (strOf v50)))) ++ ((46 : UInt8) :: []))) + (List.length ((List.take 1 (List.take ((List.length (Array.toList (ByteArray.data (strOf v47)))) - 1) (List.drop 1 (Array.toList (ByteArray.data (strOf v47)))))) ++ (Array.toList (ByteArray.data (strOf v48)))))) 9223372036854775807))
                          Prog.fail
                          (Nat.ble ((List.length ((Array.toList (ByteArray.data x8)) ++ (Array.toList (ByteArray.data (strOf v50))))) + 1) 9223372036854775807))
                        Prog.fail
                        (Nat.ble ((List.length (Array.toList (ByteArray.data x8))) + (List.length (Array.toList (ByteArray.data (strOf v50))))) 9223372036854775807))
                      Prog.fail
                      (okK Kd.str v50)))
                  Prog.fail
                  (Nat.ble ((List.length (List.take 1 (List.take ((List.length (Array.toList (ByteArray.data (strOf v47)))) - 1) (List.drop 1 (Array.toList (ByteArray.data (strOf v47))))))) + (List.length (Array.toList (ByteArray.data (strOf v48))))) 9223372036854775807))
                Prog.fail
                (okK Kd.str v48)))
            Prog.fail
            ((Nat.ble 1 (List.length (List.take ((List.length (Array.toList (ByteArray.data (strOf v47)))) - 1) (List.drop 1 (Array.toList (ByteArray.data (strOf v47))))))) && (Nat.ble (List.length (List.take ((List.length (Array.toList (ByteArray.data (strOf v47)))) - 1) (List.drop 1 (Array.toList (ByteArray.data (strOf v47)))))) (List.length (List.take ((List.length (Array.toList (ByteArray.data (strOf v47)))) - 1) (List.drop 1 (Array.toList (ByteArray.data (strOf v47)))))))))
          Prog.fail
          (Nat.ble 1 (List.length (List.take ((List.length (Array.toList (ByteArray.data (strOf v47)))) - 1) (List.drop 1 (Array.toList (ByteArray.data (strOf v47))))))))
        Prog.fail
        ((Nat.ble 1 (List.length (Array.toList (ByteArray.data (strOf v47))))) && (Nat.ble (List.length (Array.toList (ByteArray.data (strOf v47)))) (List.length (Array.toList (ByteArray.data (strOf v47)))))))
      Prog.fail
      (okK Kd.str v47))) := by kernel_rfl
theorem f31_eq (f : Nat) (x0 : Int) (x1 : Int) : callF En (runP En (f + 1)) 31 [(Value.int IntKind.i64 x0), (Value.int IntKind.i64 x1)] =
  (cnd
    (p31_3 f (IntKind.wrap IntKind.i64 ((0 : Int) + (Int.neg x0))) x1)
    (p31_3 f x0 x1)
    (decide (x0 < (0 : Int)))) := by kernel_rfl
end Go.Proofs.YtmjbmbmnnephjaaGreatDoor
/- What comes of the points of a function: printed by the tool. -/
namespace Go.Proofs.YtmjbmbmnnephjaaGreatDoor
open Go Go.Ev Go.Proofs
set_option maxRecDepth 8000
set_option linter.unusedVariables false
theorem f43_eq (f : Nat) (x0 : Int) : callF En (runP En (f + 1)) 43 [(Value.int IntKind.u8 x0)] =
  (Prog.call (callF En (runP En f) 44 [(Value.int IntKind.u8 x0)]) fun v3 =>
    (cnd
      (cnd
        (Prog.ret (Value.bool Bool.true))
        (Prog.call (callF En (runP En f) 60 [(Value.int IntKind.u8 x0)]) fun v4 =>
          (cnd
            (cnd
              (Prog.ret (Value.bool Bool.true))
              (Prog.ret (Value.bool (decide (x0 = (95 : Int)))))
              (boolOf v4))
            Prog.fail
            (okK Kd.bool v4)))
        (boolOf v3))
      Prog.fail
      (okK Kd.bool v3))) := by kernel_rfl
end Go.Proofs.YtmjbmbmnnephjaaGreatDoor
/- What comes of the points of a function: printed by the tool. -/
namespace Go.Proofs.YtmjbmbmnnephjaaGreatDoor
open Go Go.Ev Go.Proofs
set_option maxRecDepth 8000
set_option linter.unusedVariables false
theorem f44_eq (f : Nat) (x0 : Int) : callF En (runP En (f + 1)) 44 [(Value.int IntKind.u8 x0)] =
  (cnd
    (cnd
      (Prog.ret (Value.bool Bool.true))
      (cnd
        (Prog.ret (Value.bool (decide (x0 ≤ (90 : Int)))))
        (Prog.ret (Value.bool Bool.false))
        (decide (x0 ≥ (65 : Int))))
      (decide (x0 ≤ (122 : Int))))
    (cnd
      (Prog.ret (Value.bool (decide (x0 ≤ (90 : Int)))))
      (Prog.ret (Value.bool Bool.false))
      (decide (x0 ≥ (65 : Int))))
    (decide (x0 ≥ (97 : Int)))) := by kernel_rfl
end Go.Proofs.YtmjbmbmnnephjaaGreatDoor
/- What comes of the points of a function: printed by the tool. -/
namespace Go.Proofs.YtmjbmbmnnephjaaGreatDoor
open Go Go.Ev Go.Proofs
set_option maxRecDepth 8000
set_option linter.unusedVariables false
noncomputable def p48_5 (f : Nat) (x1 : Nat) (x1o : Nat) (x2 : Nat) (x2o : Nat) (x94 : Nat) (x94o : Nat) : Prog := runP En f 48 (tmL 94 [(1, (Value.pointer (Option.some (Addr.mk x1 x1o Option.none)))), (2, (Value.pointer (Option.some (Addr.mk x2 x2o Option.none))))]) [.code (cL (cI (cL (cR (cR (cR (cR (cB 48)))))))), .code (cR (cI (cL (cR (cR (cR (cR (cB 48)))))))), .inBlock 0, .code (cR (cR (cR (cR (cR (cB 48))))))] [{ target := .fn (.func 81) ⟨[(Value.pointer (Option.some (Addr.mk x94 x94o Option.none)))]⟩, args := ⟨[]⟩ }] none
theorem p48_5_eq (f : Nat) (x1 : Nat) (x1o : Nat) (x2 : Nat) (x2o : Nat) (x94 : Nat) (x94o : Nat) : p48_5 (f + 1) x1 x1o x2 x2o x94 x94o =
  (callP (fun v12 =>
    (cnd
      (callP (fun v13 =>
        (cnd
          (cnd
            (callP (fun v14 =>
              (cnd
                (callP (fun v15 =>
                  (gd Bool.true
                    (callP (fun v16 =>
                      (gd Bool.true (Prog.call (callF En (runP En f) 81 [(Value.pointer (Option.some (Addr.mk x94 x94o Option.none)))]) fun v17 =>
                        (Prog.call (loadT En 32 x2 x2o) fun v18 =>
                          (frzT En 32 v18 fun v19 =>
                            (Prog.ret v19)))
                        )))
                      (storeT En 32 x2 x2o (Value.agg ⟨((Value.int IntKind.i64 (0 : Int)) :: ((Value.slice Option.none 0 0) :: ((Value.slice Option.none 0 0) :: ((Value.slice Option.none 0 0) :: []))))⟩)))))
                  (storeT En 4 (blkOf v14) (((offOf v14) + 0) + 1) (Value.bool Bool.true)))
                Prog.fail
                (isPt v14)))
              (loadT En 70 x1 x1o))
            (callP (fun v20 =>
              (cnd
                (callP (fun v21 =>
                  (cnd
                    (cnd
                      (callP (fun v22 =>
                        (cnd
                          (callP (fun v23 =>
                            (gd Bool.true
                              (callP (fun v24 =>
                                (gd Bool.true (Prog.call (callF En (runP En f) 81 [(Value.pointer (Option.some (Addr.mk x94 x94o Option.none)))]) fun v25 =>
                                  (Prog.call (loadT En 32 x2 x2o) fun v26 =>
                                    (frzT En 32 v26 fun v27 =>
                                      (Prog.ret v27)))
                                  )))
                                (storeT En 32 x2 x2o (Value.agg ⟨((Value.int IntKind.i64 (0 : Int)) :: ((Value.slice Option.none 0 0) :: ((Value.slice Option.none 0 0) :: ((Value.slice Option.none 0 0) :: []))))⟩)))))
                            (storeT En 4 (blkOf v22) (((offOf v22) + 0) + 1) (Value.bool Bool.true)))
                          Prog.fail
                          (isPt v22)))
                        (loadT En 70 x1 x1o))
                      (callP (fun v28 =>
                        (cnd
                          (Prog.call (callF En (runP En f) 82 [(Value.pointer (Option.some (Addr.mk (blkOf v28) ((offOf v28) + 0) Option.none))), (Value.string (mkStr [58, 58]))]) fun v29 =>
                            (cnd
                              (cnd
                                (Prog.call (callF En (runP En f) 83 []) fun v30 =>
                                  (cnd
                                    (callP (fun v31 =>
                                      (gd Bool.true (Prog.call (callF En (runP En f) 81 [(Value.pointer (Option.some (Addr.mk x94 x94o Option.none)))]) fun v32 =>
                                        (Prog.call (loadT En 32 x2 x2o) fun v33 =>
                                          (frzT En 32 v33 fun v34 =>
                                            (Prog.ret v34)))
                                        )))
                                      (storeT En 32 x2 x2o (Value.agg ⟨((Value.int IntKind.i64 (intOf (at_ (aggOf v30) 0))) :: ((lstV (elems (at_ (aggOf v30) 1))) :: ((lstV (elems (at_ (aggOf v30) 2))) :: ((lstV (elems (at_ (aggOf v30) 3))) :: []))))⟩)))
                                    Prog.fail
                                    ((isAggV v30) && (okKs ((Kd.int IntKind.i64) :: (Kd.lst :: (Kd.lst :: (Kd.lst :: [])))) (aggOf v30)))))
                                (callP (fun v35 =>
                                  (cnd
                                    (Prog.call (callF En (runP En f) 82 [(Value.pointer (Option.some (Addr.mk (blkOf v35) ((offOf v35) + 0) Option.none))), (Value.string (mkStr [44]))]) fun v36 =>
                                      (cnd
                                        (cnd
                                          (callP (fun v37 =>
                                            (cnd
                                              (Prog.call (callF En (runP En f) 48 [(Value.pointer (Option.some (Addr.mk (blkOf v37) (offOf v37) Option.none)))]) fun v38 =>
                                                (cnd
                                                  (callP (fun v40 =>
                                                    (cnd
                                                      (callP (fun v41 =>
                                                        (callP (fun v42 =>
                                                          (cnd
                                                            (Prog.call (callF En (runP En f) 84 [(xlstV ((Value.agg ⟨((Value.int IntKind.i64 (intOf (at_ (aggOf v42) 0))) :: ((lstV (elems (at_ (aggOf v42) 1))) :: ((lstV (elems (at_ (aggOf v42) 2))) :: ((lstV (elems (at_ (aggOf v42) 3))) :: []))))⟩) :: []))]) fun v43 =>
                                                              (cnd
                                                                (callP (fun v44 =>
                                                                  (gd Bool.true (Prog.call (callF En (runP En f) 81 [(Value.pointer (Option.some (Addr.mk x94 x94o Option.none)))]) fun v45 =>
                                                                    (Prog.call (loadT En 32 x2 x2o) fun v46 =>
                                                                      (frzT En 32 v46 fun v47 =>
                                                                        (Prog.ret v47)))
                                                                    )))
                                                                  (storeT En 32 x2 x2o (Value.agg ⟨((Value.int IntKind.i64 (intOf (at_ (aggOf v43) 0))) :: ((lstV (elems (at_ (aggOf v43) 1))) :: ((lstV (elems (at_ (aggOf v43) 2))) :: ((lstV (elems (at_ (aggOf v43) 3))) :: []))))⟩)))
                                                                Prog.fail
                                                                ((isAggV v43) && (okKs ((Kd.int IntKind.i64) :: (Kd.lst :: (Kd.lst :: (Kd.lst :: [])))) (aggOf v43)))))
                                                            Prog.fail
                                                            ((isAggV v42) && (okKs ((Kd.int IntKind.i64) :: (Kd.lst :: (Kd.lst :: (Kd.lst :: [])))) (aggOf v42)))))
                                                          (loadT En 32 (blkOf v40) (offOf v40))))
                                                        (storeT En 32 (blkOf v40) (offOf v40) (Value.agg ⟨((Value.int IntKind.i64 (intOf (at_ (aggOf v38) 0))) :: ((lstV (elems (at_ (aggOf v38) 1))) :: ((lstV (elems (at_ (aggOf v38) 2))) :: ((lstV (elems (at_ (aggOf v38) 3))) :: []))))⟩)))
                                                      Prog.fail
                                                      (isPt v40)))
                                                    (Prog.newH (Hdr.mk 4 32 Bool.false Bool.true Bool.true 0 Bool.false Bool.false []) ((Value.int IntKind.i64 (0 : Int)) :: ((Value.slice Option.none 0 0) :: ((Value.slice Option.none 0 0) :: ((Value.slice Option.none 0 0) :: [])))) (fun z39 => (Prog.ret (itP z39)))))
                                                  Prog.fail
                                                  ((isAggV v38) && (okKs ((Kd.int IntKind.i64) :: (Kd.lst :: (Kd.lst :: (Kd.lst :: [])))) (aggOf v38)))))
                                              Prog.fail
                                              (isPt v37)))
                                            (loadT En 70 x1 x1o))
                                          (callP (fun v48 =>
                                            (cnd
                                              (callP (fun v49 =>
                                                (cnd
                                                  (Prog.call (callF En (runP En f) 85 [(Value.string (strOf v49)), (Value.string (mkStr [40, 91, 93]))]) fun v50 =>
                                                    (cnd
                                                      (cnd
                                                        (callP (fun v51 =>
                                                          (cnd
                                                            (Prog.call (callF En (runP En f) 86 [(Value.pointer (Option.some (Addr.mk (blkOf v51) (offOf v51) Option.none)))]) fun v52 =>
                                                              (cnd
                                                                (callP (fun v53 =>
                                                                  (gd Bool.true (Prog.call (callF En (runP En f) 81 [(Value.pointer (Option.some (Addr.mk x94 x94o Option.none)))]) fun v54 =>
                                                                    (Prog.call (loadT En 32 x2 x2o) fun v55 =>
                                                                      (frzT En 32 v55 fun v56 =>
                                                                        (Prog.ret v56)))
                                                                    )))
                                                                  (storeT En 32 x2 x2o (Value.agg ⟨((Value.int IntKind.i64 (intOf (at_ (aggOf v52) 0))) :: ((lstV (elems (at_ (aggOf v52) 1))) :: ((lstV (elems (at_ (aggOf v52) 2))) :: ((lstV (elems (at_ (aggOf v52) 3))) :: []))))⟩)))
                                                                Prog.fail
                                                                ((isAggV v52) && (okKs ((Kd.int IntKind.i64) :: (Kd.lst :: (Kd.lst :: (Kd.lst :: [])))) (aggOf v52)))))
                                                            Prog.fail
                                                            (isPt v51)))
                                                          (loadT En 70 x1 x1o))
                                                        (callP (fun v57 =>
                                                          (cnd
                                                            (Prog.call (callF En (runP En f) 82 [(Value.pointer (Option.some (Addr.mk (blkOf v57) ((offOf v57) + 0) Option.none))), (Value.string (mkStr [40]))]) fun v58 =>
                                                              (cnd
                                                                (cnd
                                                                  (callP (fun v59 =>
                                                                    (cnd
                                                                      (Prog.call (callF En (runP En f) 87 [(Value.pointer (Option.some (Addr.mk (blkOf v59) (offOf v59) Option.none)))]) fun v60 =>
                                                                        (cnd
                                                                          (callP (fun v61 =>
                                                                            (gd Bool.true (Prog.call (callF En (runP En f) 81 [(Value.pointer (Option.some (Addr.mk x94 x94o Option.none)))]) fun v62 =>
                                                                              (Prog.call (loadT En 32 x2 x2o) fun v63 =>
                                                                                (frzT En 32 v63 fun v64 =>
                                                                                  (Prog.ret v64)))
                                                                              )))
                                                                            (storeT En 32 x2 x2o (Value.agg ⟨((Value.int IntKind.i64 (intOf (at_ (aggOf v60) 0))) :: ((lstV (elems (at_ (aggOf v60) 1))) :: ((lstV (elems (at_ (aggOf v60) 2))) :: ((lstV (elems (at_ (aggOf v60) 3))) :: []))))⟩)))
                                                                          Prog.fail
                                                                          ((isAggV v60) && (okKs ((Kd.int IntKind.i64) :: (Kd.lst :: (Kd.lst :: (Kd.lst :: [])))) (aggOf v60)))))
                                                                      Prog.fail
                                                                      (isPt v59)))
                                                                    (loadT En 70 x1 x1o))
                                                                  (callP (fun v65 =>
                                                                    (cnd
                                                                      (callP (fun v66 =>
                                                                        (cnd
                                                                          (cnd
                                                                            (cnd
                                                                              (callP (fun v67 =>
                                                                                (cnd
                                                                                  (Prog.call (callF En (runP En f) 88 [(Value.pointer (Option.some (Addr.mk (blkOf v67) (offOf v67) Option.none)))]) fun v68 =>
                                                                                    (cnd
                                                                                      (callP (fun v69 =>
                                                                                        (gd Bool.true (Prog.call (callF En (runP En f) 81 [(Value.pointer (Option.some (Addr.mk x94 x94o Option.none)))]) fun v70 =>
                                                                                          (Prog.call (loadT En 32 x2 x2o) fun v71 =>
                                                                                            (frzT En 32 v71 fun v72 =>
                                                                                              (Prog.ret v72)))
                                                                                          )))
                                                                                        (storeT En 32 x2 x2o (Value.agg ⟨((Value.int IntKind.i64 (intOf (at_ (aggOf v68) 0))) :: ((lstV (elems (at_ (aggOf v68) 1))) :: ((lstV (elems (at_ (aggOf v68) 2))) :: ((lstV (elems (at_ (aggOf v68) 3))) :: []))))⟩)))
                                                                                      Prog.fail
                                                                                      ((isAggV v68) && (okKs ((Kd.int IntKind.i64) :: (Kd.lst :: (Kd.lst :: (Kd.lst :: [])))) (aggOf v68)))))
                                                                                  Prog.fail
                                                                                  (isPt v67)))
                                                                                (loadT En 70 x1 x1o))
                                                                              (callP (fun v73 =>
                                                                                (cnd
                                                                                  (callP (fun v74 =>
                                                                                    (cnd
                                                                                      (cnd
                                                                                        (cnd
                                                                                          (callP (fun v75 =>
                                                                                            (cnd
                                                                                              (Prog.call (callF En (runP En f) 89 [(Value.pointer (Option.some (Addr.mk (blkOf v75) (offOf v75) Option.none)))]) fun v76 =>
                                                                                                (cnd
                                                                                                  (callP (fun v77 =>
                                                                                                    (gd Bool.true (Prog.call (callF En (runP En f) 81 [(Value.pointer (Option.some (Addr.mk x94 x94o Option.none)))]) fun v78 =>
                                                                                                      (Prog.call (loadT En 32 x2 x2o) fun v79 =>
                                                                                                        (frzT En 32 v79 fun v80 =>
                                                                                                          (Prog.ret v80)))
                                                                                                      )))
                                                                                                    (storeT En 32 x2 x2o (Value.agg ⟨((Value.int IntKind.i64 (intOf (at_ (aggOf v76) 0))) :: ((lstV (elems (at_ (aggOf v76) 1))) :: ((lstV (elems (at_ (aggOf v76) 2))) :: ((lstV (elems (at_ (aggOf v76) 3))) :: []))))⟩)))
                                                                                                  Prog.fail
                                                                                                  ((isAggV v76) && (okKs ((Kd.int IntKind.i64) :: (Kd.lst :: (Kd.lst :: (Kd.lst :: [])))) (aggOf v76)))))
                                                                                              Prog.fail
                                                                                              (isPt v75)))
                                                                                            (loadT En 70 x1 x1o))
                                                                                          (callP (fun v81 =>
                                                                                            (cnd
                                                                                              (Prog.call (callF En (runP En f) 90 [(Value.pointer (Option.some (Addr.mk (blkOf v81) (offOf v81) Option.none)))]) fun v82 =>
                                                                                                (cnd
                                                                                                  (callP (fun v83 =>
                                                                                                    (gd Bool.true (Prog.call (callF En (runP En f) 81 [(Value.pointer (Option.some (Addr.mk x94 x94o Option.none)))]) fun v84 =>
                                                                                                      (Prog.call (loadT En 32 x2 x2o) fun v85 =>
                                                                                                        (frzT En 32 v85 fun v86 =>
                                                                                                          (Prog.ret v86)))
                                                                                                      )))
                                                                                                    (storeT En 32 x2 x2o (Value.agg ⟨((Value.int IntKind.i64 (intOf (at_ (aggOf v82) 0))) :: ((lstV (elems (at_ (aggOf v82) 1))) :: ((lstV (elems (at_ (aggOf v82) 2))) :: ((lstV (elems (at_ (aggOf v82) 3))) :: []))))⟩)))
                                                                                                  Prog.fail
                                                                                                  ((isAggV v82) && (okKs ((Kd.int IntKind.i64) :: (Kd.lst :: (Kd.lst :: (Kd.lst :: [])))) (aggOf v82)))))
                                                                                              Prog.fail
                                                                                              (isPt v81)))
                                                                                            (loadT En 70 x1 x1o))
                                                                                          (decide ((Int.ofNat (byteAt (strOf v74) 0)) = (96 : Int))))
                                                                                        Prog.fail
                                                                                        (Nat.ble 1 (List.length (Array.toList (ByteArray.data (strOf v74))))))
                                                                                      Prog.fail
                                                                                      (okK Kd.str v74)))
                                                                                    (loadT En 9 (blkOf v73) (((offOf v73) + 0) + 0)))
                                                                                  Prog.fail
                                                                                  (isPt v73)))
                                                                                (loadT En 70 x1 x1o))
                                                                              (decide ((Int.ofNat (byteAt (strOf v66) 0)) = (123 : Int))))
                                                                            Prog.fail
                                                                            (Nat.ble 1 (List.length (Array.toList (ByteArray.data (strOf v66))))))
                                                                          Prog.fail
                                                                          (okK Kd.str v66)))
                                                                        (loadT En 9 (blkOf v65) (((offOf v65) + 0) + 0)))
                                                                      Prog.fail
                                                                      (isPt v65)))
                                                                    (loadT En 70 x1 x1o))
                                                                  (boolOf v58))
                                                                Prog.fail
                                                                (okK Kd.bool v58)))
                                                            Prog.fail
                                                            (isPt v57)))
                                                          (loadT En 70 x1 x1o))
                                                        (boolOf v50))
                                                      Prog.fail
                                                      (okK Kd.bool v50)))
                                                  Prog.fail
                                                  (okK Kd.str v49)))
                                                (loadT En 9 (blkOf v48) (((offOf v48) + 0) + 0)))
                                              Prog.fail
                                              (isPt v48)))
                                            (loadT En 70 x1 x1o))
                                          (boolOf v36))
                                        Prog.fail
                                        (okK Kd.bool v36)))
                                    Prog.fail
                                    (isPt v35)))
                                  (loadT En 70 x1 x1o))
                                (boolOf v29))
                              Prog.fail
                              (okK Kd.bool v29)))
                          Prog.fail
                          (isPt v28)))
                        (loadT En 70 x1 x1o))
                      (beqB (Array.toList (ByteArray.data (strOf v21))) []))
                    Prog.fail
                    (okK Kd.str v21)))
                  (loadT En 9 (blkOf v20) (((offOf v20) + 0) + 0)))
                Prog.fail
                (isPt v20)))
              (loadT En 70 x1 x1o))
            (boolOf v13))
          Prog.fail
          (okK Kd.bool v13)))
        (loadT En 4 (blkOf v12) (((offOf v12) + 0) + 1)))
      Prog.fail
      (isPt v12)))
    (loadT En 70 x1 x1o)) := by kernel_rfl
theorem f48_eq (f : Nat) (x0 : Nat) : callF En (runP En (f + 1)) 48 [(Value.pointer (Option.some (Addr.mk x0 0 Option.none)))] =
  (gd Bool.true
    (callP (fun v88 =>
      (cnd
        (callP (fun v90 =>
          (cnd
            (callP (fun v91 =>
              (cnd
                (callP (fun v92 =>
                  (cnd
                    (callP (fun v93 =>
                      (callP (fun v94 =>
                        (cnd
                          (callP (fun v95 =>
                            (cnd
                              (cnd
                                (callP (fun v96 =>
                                  (cnd
                                    (callP (fun v97 =>
                                      (p48_5 f (blkOf v88) (offOf v88) (blkOf v90) (offOf v90) (blkOf v88) (offOf v88)))
                                      (storeT En 4 (blkOf v96) (((offOf v96) + 0) + 1) (Value.bool Bool.true)))
                                    Prog.fail
                                    (isPt v96)))
                                  (loadT En 70 (blkOf v88) (offOf v88)))
                                (p48_5 f (blkOf v88) (offOf v88) (blkOf v90) (offOf v90) (blkOf v88) (offOf v88))
                                (decide ((intOf v95) > (33 : Int))))
                              Prog.fail
                              (okK (Kd.int IntKind.i64) v95)))
                            (loadT En 3 (blkOf v94) ((offOf v94) + 2)))
                          Prog.fail
                          (isPt v94)))
                        (loadT En 70 (blkOf v88) (offOf v88))))
                      (storeT En 3 (blkOf v91) ((offOf v91) + 2) (Value.int IntKind.i64 (IntKind.wrap IntKind.i64 ((intOf v92) + (1 : Int))))))
                    Prog.fail
                    (okK (Kd.int IntKind.i64) v92)))
                  (loadT En 3 (blkOf v91) ((offOf v91) + 2)))
                Prog.fail
                (isPt v91)))
              (loadT En 70 (blkOf v88) (offOf v88)))
            Prog.fail
            (isPt v90)))
          (Prog.newH (Hdr.mk 4 32 Bool.false Bool.true Bool.true 0 Bool.false Bool.false []) ((Value.int IntKind.i64 (0 : Int)) :: ((Value.slice Option.none 0 0) :: ((Value.slice Option.none 0 0) :: ((Value.slice Option.none 0 0) :: [])))) (fun z89 => (Prog.ret (itP z89)))))
        Prog.fail
        (isPt v88)))
      (Prog.newH (Hdr.mk 1 70 Bool.false Bool.true Bool.true 0 Bool.false Bool.false []) ((Value.pointer (Option.some (Addr.mk x0 0 Option.none))) :: []) (fun z87 => (Prog.ret (itP z87)))))) := by kernel_rfl
end Go.Proofs.YtmjbmbmnnephjaaGreatDoor
