/- What comes of the points of a function: printed by the tool. -/
import Derived.Test.YtmjbmbmnnephjaaGreatDoorLxKB
namespace Go.Proofs.YtmjbmbmnnephjaaGreatDoor
open Go Go.Ev Go.Proofs
set_option maxRecDepth 8000
set_option linter.unusedVariables false
noncomputable def p62_6 (f : Nat) (x0 : Nat) (x2 : Int) (x3 : ByteArray) (x4 : ByteArray) (x6 : Nat) (x6o : Nat) (x40 : Int) (x41 : Int) : Prog := runP En f 62 (tmL 142 [(0, (Value.pointer (Option.some (Addr.mk x0 0 Option.none)))), (2, (Value.int IntKind.i64 x2)), (3, (Value.string x3)), (4, (Value.string x4)), (6, (Value.pointer (Option.some (Addr.mk x6 x6o Option.none)))), (40, (Value.int IntKind.i64 x40)), (41, (Value.int IntKind.i64 x41))]) [.code (cL (cI (cI (cR (cL (cR (cL (cR (cR (cL (cR (cR (cB 62))))))))))))), .code (cR (cI (cI (cR (cL (cR (cL (cR (cR (cL (cR (cR (cB 62))))))))))))), .inLoop (cI (cI (cR (cL (cR (cL (cR (cR (cL (cR (cR (cB 62)))))))))))), .inBlock 0, .code (cR (cR (cL (cR (cR (cL (cR (cR (cB 62))))))))), .code (cR (cR (cR (cB 62))))] [] none
noncomputable def p62_15 (f : Nat) (x0 : Nat) (x2 : Int) (x8 : Nat) (x8o : Nat) : Prog := runP En f 62 (tmL 142 [(0, (Value.pointer (Option.some (Addr.mk x0 0 Option.none)))), (2, (Value.int IntKind.i64 x2)), (8, (Value.pointer (Option.some (Addr.mk x8 x8o Option.none))))]) [.code (cL (cI (cI (cI (cL (cR (cR (cR (cR (cB 62)))))))))), .code (cR (cI (cI (cI (cL (cR (cR (cR (cR (cB 62)))))))))), .inBlock 3, .inLoop (cI (cI (cL (cR (cR (cR (cR (cB 62)))))))), .inBlock 2, .code (cR (cR (cR (cR (cR (cB 62))))))] [] none
theorem p62_6_eq (f : Nat) (x0 : Nat) (x2 : Int) (x3 : ByteArray) (x4 : ByteArray) (x6 : Nat) (x6o : Nat) (x40 : Int) (x41 : Int) : p62_6 (f + 1) x0 x2 x3 x4 x6 x6o x40 x41 =
  (cnd
    (cnd
      (Prog.call (callF En (runP En f) 35 [(Value.pointer (Option.some (Addr.mk x0 0 Option.none))), (Value.int IntKind.i64 (6 : Int)), (Value.int IntKind.i64 (IntKind.wrap IntKind.i64 (x2 + x41)))]) fun v17 =>
        (cnd
          (Prog.ret (Value.tuple ⟨[]⟩))
          Prog.fail
          ((isTupV v17) && (okNs [] (tupOf v17)))))
      (Prog.seg (loadT En 28 x6 (x6o + 1)) fun v18 s19 _ =>
        (cnd
          (cnd
            (Prog.seg (buildSliceA En 28 1 ((Prod.mk 0 (Value.int IntKind.i64 (IntKind.wrap IntKind.i64 (IntKind.wrap IntKind.u8 (Int.subNatNat (byteAt x4 (Int.toNat x41)) 48))))) :: [])) fun v20 s21 _ =>
              (gdL 124 (writesOf s21) s21 [⟨1, writesOf s19, s19⟩]
                (Prog.seg (builtinA En Builtin.append (28 :: (28 :: [])) (v18 :: (v20 :: []))) fun v22 s23 _ =>
                  (gdL 255 (writesOf s23) s23 [⟨7, writesOf s21, s21⟩, ⟨1, writesOf s19, s19⟩]
                    (Prog.seg (storeT En 28 x6 (x6o + 1) v22) fun v24 s25 _ =>
                      (gdL 1023 (writesOf s25) s25 [⟨8, writesOf s23, s23⟩, ⟨7, writesOf s21, s21⟩, ⟨1, writesOf s19, s19⟩]
                        (p62_6 f x0 x2 x3 x4 x6 x6o x40 (IntKind.wrap IntKind.i64 (x41 + (1 : Int))))))))))
            Prog.fail
            (Nat.ble (Nat.succ (Int.toNat x41)) (List.length (Array.toList (ByteArray.data x4)))))
          Prog.fail
          (decide ((0 : Int) ≤ x41))))
      (decide (x41 ≥ (65536 : Int))))
    (callP (fun v26 =>
      (cnd
        (callP (fun v27 =>
          (callP (fun v28 =>
            (cnd
              (Prog.call (callF En (runP En f) 119 [(Value.pointer (Option.some (Addr.mk x0 0 Option.none))), (Value.int IntKind.i64 x2), (Value.agg ⟨((Value.int IntKind.i64 (intOf (at_ (aggOf v28) 0))) :: ((at_ (aggOf v28) 1) :: ((at_ (aggOf v28) 2) :: ((at_ (aggOf v28) 3) :: []))))⟩)]) fun v29 =>
                (cnd
                  (Prog.ret (Value.tuple ⟨[]⟩))
                  Prog.fail
                  ((isTupV v29) && (okNs [] (tupOf v29)))))
              Prog.fail
              ((isAggV v28) && (okKs ((Kd.int IntKind.i64) :: (Kd.raw :: (Kd.raw :: (Kd.raw :: [])))) (aggOf v28)))))
            (loadT En 32 x6 x6o)))
          (storeT En 3 x0 1 (Value.int IntKind.i64 (IntKind.wrap IntKind.i64 ((intOf v26) + (Int.ofNat (List.length (Array.toList (ByteArray.data x3)))))))))
        Prog.fail
        (okK (Kd.int IntKind.i64) v26)))
      (loadT En 3 x0 1))
    (decide (x41 < x40))) := by kernel_rfl
theorem p62_15_eq (f : Nat) (x0 : Nat) (x2 : Int) (x8 : Nat) (x8o : Nat) : p62_15 (f + 1) x0 x2 x8 x8o =
  (callP (fun v30 =>
    (cnd
      (Prog.call (callF En (runP En f) 120 [(Value.pointer (Option.some (Addr.mk x0 0 Option.none)))]) fun v31 =>
        (cnd
          (Prog.call (callF En (runP En f) 121 [(Value.string (strOf v31))]) fun v32 =>
            (cnd
              (cnd
                (Prog.call (callF En (runP En f) 35 [(Value.pointer (Option.some (Addr.mk x0 0 Option.none))), (Value.int IntKind.i64 (141 : Int)), (Value.int IntKind.i64 (intOf v30))]) fun v33 =>
                  (cnd
                    (Prog.ret (Value.tuple ⟨[]⟩))
                    Prog.fail
                    ((isTupV v33) && (okNs [] (tupOf v33)))))
                (callP (fun v34 =>
                  (callP (fun v35 =>
                    (cnd
                      (cnd
                        (callP (fun v36 =>
                          (cnd
                            (cnd
                              (Prog.call (callF En (runP En f) 35 [(Value.pointer (Option.some (Addr.mk x0 0 Option.none))), (Value.int IntKind.i64 (143 : Int)), (Value.int IntKind.i64 (intOf v30))]) fun v37 =>
                                (cnd
                                  (Prog.ret (Value.tuple ⟨[]⟩))
                                  Prog.fail
                                  ((isTupV v37) && (okNs [] (tupOf v37)))))
                              (callP (fun v38 =>
                                (callP (fun v39 =>
                                  (cnd
                                    (cnd
                                      (Prog.call (callF En (runP En f) 35 [(Value.pointer (Option.some (Addr.mk x0 0 Option.none))), (Value.int IntKind.i64 (6 : Int)), (Value.int IntKind.i64 (intOf v30))]) fun v40 =>
                                        (cnd
                                          (Prog.ret (Value.tuple ⟨[]⟩))
                                          Prog.fail
                                          ((isTupV v40) && (okNs [] (tupOf v40)))))
                                      (callP (fun v41 =>
                                        (callP (fun v42 =>
                                          (callP (fun v43 =>
                                            (callP (fun v44 =>
                                              (callP (fun v45 =>
                                                (Prog.call (callF En (runP En f) 122 [(Value.pointer (Option.some (Addr.mk x0 0 Option.none)))]) fun v46 =>
                                                  (cnd
                                                    (cnd
                                                      (callP (fun v47 =>
                                                        (cnd
                                                          (Prog.call (callF En (runP En f) 119 [(Value.pointer (Option.some (Addr.mk x0 0 Option.none))), (Value.int IntKind.i64 x2), (Value.agg ⟨((Value.int IntKind.i64 (intOf (at_ (aggOf v47) 0))) :: ((at_ (aggOf v47) 1) :: ((at_ (aggOf v47) 2) :: ((at_ (aggOf v47) 3) :: []))))⟩)]) fun v48 =>
                                                            (cnd
                                                              (Prog.ret (Value.tuple ⟨[]⟩))
                                                              Prog.fail
                                                              ((isTupV v48) && (okNs [] (tupOf v48)))))
                                                          Prog.fail
                                                          ((isAggV v47) && (okKs ((Kd.int IntKind.i64) :: (Kd.raw :: (Kd.raw :: (Kd.raw :: [])))) (aggOf v47)))))
                                                        (loadT En 32 x8 x8o))
                                                      (p62_15 f x0 x2 x8 x8o)
                                                      (Bool.not (boolOf v46)))
                                                    Prog.fail
                                                    (okK Kd.bool v46))))
                                                (storeT En 28 x8 (x8o + 1) v44)))
                                              (builtinA En Builtin.append (28 :: (28 :: [])) (v43 :: ((xlstV ((Value.int IntKind.i64 (intOf (at_ (tupOf v32) 1))) :: [])) :: [])))))
                                            (loadT En 28 x8 (x8o + 1))))
                                          (storeT En 3 x8 (x8o + 0) (Value.int IntKind.i64 (intOf (at_ (tupOf v32) 0))))))
                                        (storeT En 3 x0 1 (Value.int IntKind.i64 (IntKind.wrap IntKind.i64 ((intOf v30) + (Int.ofNat (List.length (Array.toList (ByteArray.data (strOf v31))))))))))
                                      (decide ((intOf v39) ≥ (65536 : Int))))
                                    Prog.fail
                                    (okK (Kd.int IntKind.i64) v39)))
                                  (builtinA En Builtin.len (28 :: []) (v38 :: []))))
                                (loadT En 28 x8 (x8o + 1)))
                              (Bool.not (decide ((intOf (at_ (tupOf v32) 0)) = (intOf v36)))))
                            Prog.fail
                            (okK (Kd.int IntKind.i64) v36)))
                          (loadT En 3 x8 (x8o + 0)))
                        (callP (fun v49 =>
                          (callP (fun v50 =>
                            (cnd
                              (cnd
                                (Prog.call (callF En (runP En f) 35 [(Value.pointer (Option.some (Addr.mk x0 0 Option.none))), (Value.int IntKind.i64 (6 : Int)), (Value.int IntKind.i64 (intOf v30))]) fun v51 =>
                                  (cnd
                                    (Prog.ret (Value.tuple ⟨[]⟩))
                                    Prog.fail
                                    ((isTupV v51) && (okNs [] (tupOf v51)))))
                                (callP (fun v52 =>
                                  (callP (fun v53 =>
                                    (callP (fun v54 =>
                                      (callP (fun v55 =>
                                        (callP (fun v56 =>
                                          (Prog.call (callF En (runP En f) 122 [(Value.pointer (Option.some (Addr.mk x0 0 Option.none)))]) fun v57 =>
                                            (cnd
                                              (cnd
                                                (callP (fun v58 =>
                                                  (cnd
                                                    (Prog.call (callF En (runP En f) 119 [(Value.pointer (Option.some (Addr.mk x0 0 Option.none))), (Value.int IntKind.i64 x2), (Value.agg ⟨((Value.int IntKind.i64 (intOf (at_ (aggOf v58) 0))) :: ((at_ (aggOf v58) 1) :: ((at_ (aggOf v58) 2) :: ((at_ (aggOf v58) 3) :: []))))⟩)]) fun v59 =>
                                                      (cnd
                                                        (Prog.ret (Value.tuple ⟨[]⟩))
                                                        Prog.fail
                                                        ((isTupV v59) && (okNs [] (tupOf v59)))))
                                                    Prog.fail
                                                    ((isAggV v58) && (okKs ((Kd.int IntKind.i64) :: (Kd.raw :: (Kd.raw :: (Kd.raw :: [])))) (aggOf v58)))))
                                                  (loadT En 32 x8 x8o))
                                                (p62_15 f x0 x2 x8 x8o)
                                                (Bool.not (boolOf v57)))
                                              Prog.fail
                                              (okK Kd.bool v57))))
                                          (storeT En 28 x8 (x8o + 1) v55)))
                                        (builtinA En Builtin.append (28 :: (28 :: [])) (v54 :: ((xlstV ((Value.int IntKind.i64 (intOf (at_ (tupOf v32) 1))) :: [])) :: [])))))
                                      (loadT En 28 x8 (x8o + 1))))
                                    (storeT En 3 x8 (x8o + 0) (Value.int IntKind.i64 (intOf (at_ (tupOf v32) 0))))))
                                  (storeT En 3 x0 1 (Value.int IntKind.i64 (IntKind.wrap IntKind.i64 ((intOf v30) + (Int.ofNat (List.length (Array.toList (ByteArray.data (strOf v31))))))))))
                                (decide ((intOf v50) ≥ (65536 : Int))))
                              Prog.fail
                              (okK (Kd.int IntKind.i64) v50)))
                            (builtinA En Builtin.len (28 :: []) (v49 :: []))))
                          (loadT En 28 x8 (x8o + 1)))
                        (decide ((intOf v35) > (0 : Int))))
                      Prog.fail
                      (okK (Kd.int IntKind.i64) v35)))
                    (builtinA En Builtin.len (28 :: []) (v34 :: []))))
                  (loadT En 28 x8 (x8o + 1)))
                (Bool.not (boolOf (at_ (tupOf v32) 2))))
              Prog.fail
              ((isTupV v32) && (okNs ((Nm.one (Kd.int IntKind.i64)) :: ((Nm.one (Kd.int IntKind.i64)) :: ((Nm.one Kd.bool) :: []))) (tupOf v32)))))
          Prog.fail
          (okK Kd.str v31)))
      Prog.fail
      (okK (Kd.int IntKind.i64) v30)))
    (loadT En 3 x0 1)) := by kernel_rfl
theorem f62_eq (f : Nat) (x0 : Nat) : callF En (runP En (f + 1)) 62 [(Value.pointer (Option.some (Addr.mk x0 0 Option.none)))] =
  (callP (fun v60 =>
    (cnd
      (Prog.call (callF En (runP En f) 32 [(Value.pointer (Option.some (Addr.mk x0 0 Option.none))), (Value.func (Fn.func 116) ⟨[]⟩ ⟨[]⟩)]) fun v61 =>
        (cnd
          (Prog.call (callF En (runP En f) 117 [(Value.string (strOf v61)), (Value.string (mkStr [98]))]) fun v62 =>
            (cnd
              (cnd
                (cnd
                  (Prog.call (callF En (runP En f) 118 [(Value.string (strOf (at_ (tupOf v62) 0))), (Value.string (mkStr [48, 49]))]) fun v63 =>
                    (cnd
                      (cnd
                        (gd Bool.true
                          (callP (fun v65 =>
                            (cnd
                              (callP (fun v66 =>
                                (p62_6 f x0 (intOf v60) (strOf v61) (strOf (at_ (tupOf v62) 0)) (blkOf v65) (offOf v65) (Int.ofNat (List.length (Array.toList (ByteArray.data (strOf (at_ (tupOf v62) 0)))))) (0 : Int)))
                                (storeT En 32 (blkOf v65) (offOf v65) (Value.agg ⟨((Value.int IntKind.i64 (1 : Int)) :: ((Value.slice Option.none 0 0) :: ((Value.slice Option.none 0 0) :: ((Value.slice Option.none 0 0) :: []))))⟩)))
                              Prog.fail
                              (isPt v65)))
                            (Prog.newH (Hdr.mk 4 32 Bool.false Bool.true Bool.true 0 Bool.false Bool.false []) ((Value.int IntKind.i64 (0 : Int)) :: ((Value.slice Option.none 0 0) :: ((Value.slice Option.none 0 0) :: ((Value.slice Option.none 0 0) :: [])))) (fun z64 => (Prog.ret (itP z64))))))
                        (gd Bool.true
                          (callP (fun v68 =>
                            (cnd
                              (callP (fun v69 =>
                                (p62_15 f x0 (intOf v60) (blkOf v68) (offOf v68)))
                                (storeT En 32 (blkOf v68) (offOf v68) (Value.agg ⟨((Value.int IntKind.i64 (0 : Int)) :: ((Value.slice Option.none 0 0) :: ((Value.slice Option.none 0 0) :: ((Value.slice Option.none 0 0) :: []))))⟩)))
                              Prog.fail
                              (isPt v68)))
                            (Prog.newH (Hdr.mk 4 32 Bool.false Bool.true Bool.true 0 Bool.false Bool.false []) ((Value.int IntKind.i64 (0 : Int)) :: ((Value.slice Option.none 0 0) :: ((Value.slice Option.none 0 0) :: ((Value.slice Option.none 0 0) :: [])))) (fun z67 => (Prog.ret (itP z67))))))
                        (beqB (Array.toList (ByteArray.data (strOf v63))) []))
                      Prog.fail
                      (okK Kd.str v63)))
                  (gd Bool.true
                    (callP (fun v71 =>
                      (cnd
                        (callP (fun v72 =>
                          (p62_15 f x0 (intOf v60) (blkOf v71) (offOf v71)))
                          (storeT En 32 (blkOf v71) (offOf v71) (Value.agg ⟨((Value.int IntKind.i64 (0 : Int)) :: ((Value.slice Option.none 0 0) :: ((Value.slice Option.none 0 0) :: ((Value.slice Option.none 0 0) :: []))))⟩)))
                        Prog.fail
                        (isPt v71)))
                      (Prog.newH (Hdr.mk 4 32 Bool.false Bool.true Bool.true 0 Bool.false Bool.false []) ((Value.int IntKind.i64 (0 : Int)) :: ((Value.slice Option.none 0 0) :: ((Value.slice Option.none 0 0) :: ((Value.slice Option.none 0 0) :: [])))) (fun z70 => (Prog.ret (itP z70))))))
                  (Bool.not (beqB (Array.toList (ByteArray.data (strOf (at_ (tupOf v62) 0)))) [])))
                (gd Bool.true
                  (callP (fun v74 =>
                    (cnd
                      (callP (fun v75 =>
                        (p62_15 f x0 (intOf v60) (blkOf v74) (offOf v74)))
                        (storeT En 32 (blkOf v74) (offOf v74) (Value.agg ⟨((Value.int IntKind.i64 (0 : Int)) :: ((Value.slice Option.none 0 0) :: ((Value.slice Option.none 0 0) :: ((Value.slice Option.none 0 0) :: []))))⟩)))
                      Prog.fail
                      (isPt v74)))
                    (Prog.newH (Hdr.mk 4 32 Bool.false Bool.true Bool.true 0 Bool.false Bool.false []) ((Value.int IntKind.i64 (0 : Int)) :: ((Value.slice Option.none 0 0) :: ((Value.slice Option.none 0 0) :: ((Value.slice Option.none 0 0) :: [])))) (fun z73 => (Prog.ret (itP z73))))))
                (boolOf (at_ (tupOf v62) 1)))
              Prog.fail
              ((isTupV v62) && (okNs ((Nm.one Kd.str) :: ((Nm.one Kd.bool) :: [])) (tupOf v62)))))
          Prog.fail
          (okK Kd.str v61)))
      Prog.fail
      (okK (Kd.int IntKind.i64) v60)))
    (loadT En 3 x0 1)) := by kernel_rfl
end Go.Proofs.YtmjbmbmnnephjaaGreatDoor
/- What comes of the points of a function: printed by the tool. -/
namespace Go.Proofs.YtmjbmbmnnephjaaGreatDoor
open Go Go.Ev Go.Proofs
set_option maxRecDepth 8000
set_option linter.unusedVariables false
theorem f63_eq (f : Nat) (x0 : Nat) (x1 : Int) (x2 : Int) (x3 : ByteArray) (x4_0 : Int) (x4_1 : List Value) (x4_2 : List Value) (x4_3 : List Value) : callF En (runP En (f + 1)) 63 [(Value.pointer (Option.some (Addr.mk x0 0 Option.none))), (Value.int IntKind.i64 x1), (Value.int IntKind.i64 x2), (Value.string x3), (Value.agg ⟨((Value.int IntKind.i64 x4_0) :: ((lstV x4_1) :: ((lstV x4_2) :: ((lstV x4_3) :: []))))⟩)] =
  (gd Bool.true
    (callP (fun v16 =>
      (cnd
        (Prog.seg (loadT En 23 x0 2) fun v17 s18 _ =>
          (Prog.seg (loadT En 3 x0 1) fun v19 s20 _ =>
            (gdL 1920 (writesOf s20) s20 [⟨4, writesOf s18, s18⟩]
              (cnd
                (Prog.seg (loadT En 32 (blkOf v16) (offOf v16)) fun v21 s22 _ =>
                  (gdL 0 (writesOf s22) s22 [⟨11, writesOf s20, s20⟩, ⟨4, writesOf s18, s18⟩]
                    (cnd
                      (gd Bool.true
                        (Prog.seg (buildSliceA En 23 1 ((Prod.mk 0 (Value.agg ⟨((Value.int IntKind.i64 x1) :: ((Value.int IntKind.i64 x2) :: ((Value.int IntKind.i64 (intOf v19)) :: ((Value.string x3) :: ((Value.int IntKind.i64 (intOf (at_ (aggOf v21) 0))) :: ((at_ (aggOf v21) 1) :: ((at_ (aggOf v21) 2) :: ((at_ (aggOf v21) 3) :: []))))))))⟩)) :: [])) fun v23 s24 _ =>
                          (gdL 32736 (writesOf s24) s24 [⟨13, writesOf s22, s22⟩, ⟨11, writesOf s20, s20⟩, ⟨4, writesOf s18, s18⟩]
                            (Prog.seg (builtinA En Builtin.append (23 :: (23 :: [])) (v17 :: (v23 :: []))) fun v25 s26 _ =>
                              (gdL 65534 (writesOf s26) s26 [⟨15, writesOf s24, s24⟩, ⟨13, writesOf s22, s22⟩, ⟨11, writesOf s20, s20⟩, ⟨4, writesOf s18, s18⟩]
                                (Prog.seg (storeT En 23 x0 2 v25) fun v27 s28 _ =>
                                  (gdL 524287 (writesOf s28) s28 [⟨16, writesOf s26, s26⟩, ⟨15, writesOf s24, s24⟩, ⟨13, writesOf s22, s22⟩, ⟨11, writesOf s20, s20⟩, ⟨4, writesOf s18, s18⟩]
                                    (Prog.ret (Value.tuple ⟨[]⟩)))))))))
                      Prog.fail
                      ((isAggV v21) && (okKs ((Kd.int IntKind.i64) :: (Kd.raw :: (Kd.raw :: (Kd.raw :: [])))) (aggOf v21))))))
                Prog.fail
                (okK (Kd.int IntKind.i64) v19)))))
        Prog.fail
        (isPt v16)))
      (Prog.newH (Hdr.mk 4 32 Bool.false Bool.true Bool.true 0 Bool.false Bool.false []) ((Value.int IntKind.i64 x4_0) :: ((lstV x4_1) :: ((lstV x4_2) :: ((lstV x4_3) :: [])))) (fun z15 => (Prog.ret (itP z15)))))) := by kernel_rfl
end Go.Proofs.YtmjbmbmnnephjaaGreatDoor
/- What comes of the points of a function: printed by the tool. -/
namespace Go.Proofs.YtmjbmbmnnephjaaGreatDoor
open Go Go.Ev Go.Proofs
set_option maxRecDepth 8000
set_option linter.unusedVariables false
noncomputable def p64_2 (f : Nat) (x0 : Nat) (x2 : Int) (x3 : Nat) (x3o : Nat) : Prog := runP En f 64 (tmL 119 [(0, (Value.pointer (Option.some (Addr.mk x0 0 Option.none)))), (2, (Value.int IntKind.i64 x2)), (3, (Value.pointer (Option.some (Addr.mk x3 x3o Option.none))))]) [.code (cL (cL (cI (cI (cL (cR (cR (cB 64)))))))), .code (cR (cL (cI (cI (cL (cR (cR (cB 64)))))))), .code (cR (cI (cI (cL (cR (cR (cB 64))))))), .inLoop (cI (cI (cL (cR (cR (cB 64)))))), .inBlock 0, .code (cR (cR (cR (cB 64))))] [] none
noncomputable def p64_14 (f : Nat) (x0 : Nat) (x2 : Int) (x3 : Nat) (x3o : Nat) (x4 : Int) (x5 : ByteArray) (x6 : Int) : Prog := runP En f 64 (tmL 119 [(0, (Value.pointer (Option.some (Addr.mk x0 0 Option.none)))), (2, (Value.int IntKind.i64 x2)), (3, (Value.pointer (Option.some (Addr.mk x3 x3o Option.none)))), (4, (Value.int IntKind.i64 x4)), (5, (Value.string x5)), (6, (Value.int IntKind.i64 x6))]) [.code (cL (cI (cL (cR (cR (cR (cR (cI (cR (cI (cI (cL (cR (cR (cB 64))))))))))))))), .code (cR (cI (cL (cR (cR (cR (cR (cI (cR (cI (cI (cL (cR (cR (cB 64))))))))))))))), .inBlock 3, .code (cR (cR (cR (cR (cR (cI (cR (cI (cI (cL (cR (cR (cB 64))))))))))))), .inBlock 1, .inLoop (cI (cI (cL (cR (cR (cB 64)))))), .inBlock 0, .code (cR (cR (cR (cB 64))))] [] none
noncomputable def p64_19 (f : Nat) (x0 : Nat) (x2 : Int) (x3 : Nat) (x3o : Nat) (x5 : ByteArray) (x6 : Int) : Prog := runP En f 64 (tmL 119 [(0, (Value.pointer (Option.some (Addr.mk x0 0 Option.none)))), (2, (Value.int IntKind.i64 x2)), (3, (Value.pointer (Option.some (Addr.mk x3 x3o Option.none)))), (5, (Value.string x5)), (6, (Value.int IntKind.i64 x6))]) [.code (cL (cR (cR (cR (cR (cR (cI (cR (cI (cI (cL (cR (cR (cB 64)))))))))))))), .code (cR (cR (cR (cR (cR (cR (cI (cR (cI (cI (cL (cR (cR (cB 64)))))))))))))), .inBlock 1, .inLoop (cI (cI (cL (cR (cR (cB 64)))))), .inBlock 0, .code (cR (cR (cR (cB 64))))] [] none
theorem p64_2_eq (f : Nat) (x0 : Nat) (x2 : Int) (x3 : Nat) (x3o : Nat) : p64_2 (f + 1) x0 x2 x3 x3o =
  (callP (fun v33 =>
    (cnd
      (cnd
        (Prog.call (callF En (runP En f) 59 [(Value.pointer (Option.some (Addr.mk x0 0 Option.none))), (Value.int IntKind.i64 (0 : Int))]) fun v34 =>
          (cnd
            (cnd
              (callP (fun v35 =>
                (cnd
                  (callP (fun v36 =>
                    (callP (fun v37 =>
                      (cnd
                        (cnd
                          (Prog.call (callF En (runP En f) 35 [(Value.pointer (Option.some (Addr.mk x0 0 Option.none))), (Value.int IntKind.i64 (6 : Int)), (Value.int IntKind.i64 (intOf v35))]) fun v38 =>
                            (cnd
                              (Prog.ret (Value.tuple ⟨[]⟩))
                              Prog.fail
                              ((isTupV v38) && (okNs [] (tupOf v38)))))
                          (Prog.call (callF En (runP En f) 59 [(Value.pointer (Option.some (Addr.mk x0 0 Option.none))), (Value.int IntKind.i64 (1 : Int))]) fun v39 =>
                            (cnd
                              (cnd
                                (Prog.call (callF En (runP En f) 65 [(Value.pointer (Option.some (Addr.mk x0 0 Option.none))), (Value.int IntKind.i64 (1 : Int))]) fun v40 =>
                                  (cnd
                                    (p64_14 f x0 x2 x3 x3o (intOf v35) (strOf (at_ (tupOf v40) 0)) (intOf (at_ (tupOf v40) 1)))
                                    Prog.fail
                                    ((isTupV v40) && (okNs ((Nm.one Kd.str) :: ((Nm.one (Kd.int IntKind.i64)) :: [])) (tupOf v40)))))
                                (Prog.call (callF En (runP En f) 59 [(Value.pointer (Option.some (Addr.mk x0 0 Option.none))), (Value.int IntKind.i64 (1 : Int))]) fun v41 =>
                                  (cnd
                                    (Prog.call (callF En (runP En f) 44 [(Value.int IntKind.u8 (intOf v41))]) fun v42 =>
                                      (cnd
                                        (cnd
                                          (callP (fun v43 =>
                                            (cnd
                                              (callP (fun v44 =>
                                                (Prog.call (callF En (runP En f) 32 [(Value.pointer (Option.some (Addr.mk x0 0 Option.none))), (Value.func (Fn.func 116) ⟨[]⟩ ⟨[]⟩)]) fun v45 =>
                                                  (cnd
                                                    (callP (fun v46 =>
                                                      (cnd
                                                        (callP (fun v47 =>
                                                          (p64_14 f x0 x2 x3 x3o (intOf v35) (strOf v45) (Int.ofNat (List.length (Array.toList (ByteArray.data (strOf v45)))))))
                                                          (storeT En 3 x0 1 (Value.int IntKind.i64 (IntKind.wrap IntKind.i64 ((intOf v46) + (-1 : Int))))))
                                                        Prog.fail
                                                        (okK (Kd.int IntKind.i64) v46)))
                                                      (loadT En 3 x0 1))
                                                    Prog.fail
                                                    (okK Kd.str v45))))
                                                (storeT En 3 x0 1 (Value.int IntKind.i64 (IntKind.wrap IntKind.i64 ((intOf v43) + (1 : Int))))))
                                              Prog.fail
                                              (okK (Kd.int IntKind.i64) v43)))
                                            (loadT En 3 x0 1))
                                          (p64_14 f x0 x2 x3 x3o (intOf v35) (mkStr []) (0 : Int))
                                          (boolOf v42))
                                        Prog.fail
                                        (okK Kd.bool v42)))
                                    Prog.fail
                                    (okK (Kd.int IntKind.u8) v41)))
                                (decide ((intOf v39) = (34 : Int))))
                              Prog.fail
                              (okK (Kd.int IntKind.u8) v39)))
                          (decide ((intOf v37) ≥ (65536 : Int))))
                        Prog.fail
                        (okK (Kd.int IntKind.i64) v37)))
                      (builtinA En Builtin.len (29 :: []) (v36 :: []))))
                    (loadT En 29 x3 (x3o + 2)))
                  Prog.fail
                  (okK (Kd.int IntKind.i64) v35)))
                (loadT En 3 x0 1))
              (callP (fun v48 =>
                (cnd
                  (Prog.call (callF En (runP En f) 119 [(Value.pointer (Option.some (Addr.mk x0 0 Option.none))), (Value.int IntKind.i64 x2), (Value.agg ⟨((Value.int IntKind.i64 (intOf (at_ (aggOf v48) 0))) :: ((at_ (aggOf v48) 1) :: ((at_ (aggOf v48) 2) :: ((at_ (aggOf v48) 3) :: []))))⟩)]) fun v49 =>
                    (cnd
                      (Prog.ret (Value.tuple ⟨[]⟩))
                      Prog.fail
                      ((isTupV v49) && (okNs [] (tupOf v49)))))
                  Prog.fail
                  ((isAggV v48) && (okKs ((Kd.int IntKind.i64) :: (Kd.raw :: (Kd.raw :: (Kd.raw :: [])))) (aggOf v48)))))
                (loadT En 32 x3 x3o))
              (decide ((intOf v34) = (96 : Int))))
            Prog.fail
            (okK (Kd.int IntKind.u8) v34)))
        (callP (fun v50 =>
          (cnd
            (Prog.call (callF En (runP En f) 119 [(Value.pointer (Option.some (Addr.mk x0 0 Option.none))), (Value.int IntKind.i64 x2), (Value.agg ⟨((Value.int IntKind.i64 (intOf (at_ (aggOf v50) 0))) :: ((at_ (aggOf v50) 1) :: ((at_ (aggOf v50) 2) :: ((at_ (aggOf v50) 3) :: []))))⟩)]) fun v51 =>
              (cnd
                (Prog.ret (Value.tuple ⟨[]⟩))
                Prog.fail
                ((isTupV v51) && (okNs [] (tupOf v51)))))
            Prog.fail
            ((isAggV v50) && (okKs ((Kd.int IntKind.i64) :: (Kd.raw :: (Kd.raw :: (Kd.raw :: [])))) (aggOf v50)))))
          (loadT En 32 x3 x3o))
        (decide ((intOf v33) = (0 : Int))))
      Prog.fail
      (okK (Kd.int IntKind.i64) v33)))
    (loadT En 24 x0 3)) := by kernel_rfl
theorem p64_14_eq (f : Nat) (x0 : Nat) (x2 : Int) (x3 : Nat) (x3o : Nat) (x4 : Int) (x5 : ByteArray) (x6 : Int) : p64_14 (f + 1) x0 x2 x3 x3o x4 x5 x6 =
  (callP (fun v52 =>
    (cnd
      (cnd
        (Prog.ret (Value.tuple ⟨[]⟩))
        (cnd
          (Prog.call (callF En (runP En f) 35 [(Value.pointer (Option.some (Addr.mk x0 0 Option.none))), (Value.int IntKind.i64 (1 : Int)), (Value.int IntKind.i64 x4)]) fun v53 =>
            (cnd
              (p64_19 f x0 x2 x3 x3o x5 x6)
              Prog.fail
              ((isTupV v53) && (okNs [] (tupOf v53)))))
          (Prog.call (callF En (runP En f) 66 [(Value.string x5), (Value.int IntKind.u8 (0 : Int))]) fun v54 =>
            (cnd
              (cnd
                (Prog.call (callF En (runP En f) 35 [(Value.pointer (Option.some (Addr.mk x0 0 Option.none))), (Value.int IntKind.i64 (140 : Int)), (Value.int IntKind.i64 x4)]) fun v55 =>
                  (cnd
                    (p64_19 f x0 x2 x3 x3o x5 x6)
                    Prog.fail
                    ((isTupV v55) && (okNs [] (tupOf v55)))))
                (p64_19 f x0 x2 x3 x3o x5 x6)
                (decide ((intOf v54) ≥ (0 : Int))))
              Prog.fail
              (okK (Kd.int IntKind.i64) v54)))
          (decide ((Int.ofNat (List.length (Array.toList (ByteArray.data x5)))) > (64 : Int))))
        (Bool.not (decide ((intOf v52) = (0 : Int)))))
      Prog.fail
      (okK (Kd.int IntKind.i64) v52)))
    (loadT En 24 x0 3)) := by kernel_rfl
theorem p64_19_eq (f : Nat) (x0 : Nat) (x2 : Int) (x3 : Nat) (x3o : Nat) (x5 : ByteArray) (x6 : Int) : p64_19 (f + 1) x0 x2 x3 x3o x5 x6 =
  (callP (fun v56 =>
    (cnd
      (callP (fun v57 =>
        (callP (fun v58 =>
          (callP (fun v59 =>
            (callP (fun v60 =>
              (p64_2 f x0 x2 x3 x3o))
              (storeT En 29 x3 (x3o + 2) v59)))
            (builtinA En Builtin.append (29 :: (29 :: [])) (v58 :: ((xlstV ((Value.string x5) :: [])) :: [])))))
          (loadT En 29 x3 (x3o + 2))))
        (storeT En 3 x0 1 (Value.int IntKind.i64 (IntKind.wrap IntKind.i64 ((intOf v56) + (IntKind.wrap IntKind.i64 ((1 : Int) + x6)))))))
      Prog.fail
      (okK (Kd.int IntKind.i64) v56)))
    (loadT En 3 x0 1)) := by kernel_rfl
theorem f64_eq (f : Nat) (x0 : Nat) : callF En (runP En (f + 1)) 64 [(Value.pointer (Option.some (Addr.mk x0 0 Option.none)))] =
  (callP (fun v61 =>
    (cnd
      (gd Bool.true
        (callP (fun v63 =>
          (cnd
            (callP (fun v64 =>
              (p64_2 f x0 (intOf v61) (blkOf v63) (offOf v63)))
              (storeT En 32 (blkOf v63) (offOf v63) (Value.agg ⟨((Value.int IntKind.i64 (3 : Int)) :: ((Value.slice Option.none 0 0) :: ((Value.slice Option.none 0 0) :: ((Value.slice Option.none 0 0) :: []))))⟩)))
            Prog.fail
            (isPt v63)))
          (Prog.newH (Hdr.mk 4 32 Bool.false Bool.true Bool.true 0 Bool.false Bool.false []) ((Value.int IntKind.i64 (0 : Int)) :: ((Value.slice Option.none 0 0) :: ((Value.slice Option.none 0 0) :: ((Value.slice Option.none 0 0) :: [])))) (fun z62 => (Prog.ret (itP z62))))))
      Prog.fail
      (okK (Kd.int IntKind.i64) v61)))
    (loadT En 3 x0 1)) := by kernel_rfl
end Go.Proofs.YtmjbmbmnnephjaaGreatDoor
/- What comes of the points of a function: printed by the tool. -/
namespace Go.Proofs.YtmjbmbmnnephjaaGreatDoor
open Go Go.Ev Go.Proofs
set_option maxRecDepth 8000
set_option linter.unusedVariables false
noncomputable def p65_7 (f : Nat) (x0 : Nat) (x6 : Int) : Prog := runP En f 65 (tmL 50 [(0, (Value.pointer (Option.some (Addr.mk x0 0 Option.none)))), (6, (Value.int IntKind.i64 x6))]) [.code (cL (cR (cR (cR (cR (cB 65)))))), .code (cR (cR (cR (cR (cR (cB 65))))))] [] none
theorem p65_7_eq (f : Nat) (x0 : Nat) (x6 : Int) : p65_7 (f + 1) x0 x6 =
  (Prog.call (callF En (runP En f) 35 [(Value.pointer (Option.some (Addr.mk x0 0 Option.none))), (Value.int IntKind.i64 (142 : Int)), (Value.int IntKind.i64 x6)]) fun v6 =>
    (cnd
      (Prog.ret (Value.tuple ⟨((Value.string (mkStr [])) :: ((Value.int IntKind.i64 (0 : Int)) :: []))⟩))
      Prog.fail
      ((isTupV v6) && (okNs [] (tupOf v6))))) := by kernel_rfl
theorem f65_eq (f : Nat) (x0 : Nat) (x1 : Int) : callF En (runP En (f + 1)) 65 [(Value.pointer (Option.some (Addr.mk x0 0 Option.none))), (Value.int IntKind.i64 x1)] =
  (callP (fun v7 =>
    (cnd
      (callP (fun v8 =>
        (cnd
          (cnd
            (cnd
              (Prog.call (callF En (runP En f) 66 [(Value.string (mkStr (List.take ((List.length (Array.toList (ByteArray.data (strOf v8)))) - (Int.toNat (IntKind.wrap IntKind.i64 ((IntKind.wrap IntKind.i64 ((intOf v7) + x1)) + (1 : Int))))) (List.drop (Int.toNat (IntKind.wrap IntKind.i64 ((IntKind.wrap IntKind.i64 ((intOf v7) + x1)) + (1 : Int)))) (Array.toList (ByteArray.data (strOf v8))))))), (Value.int IntKind.u8 (34 : Int))]) fun v9 =>
                (cnd
                  (cnd
                    (callP (fun v10 =>
                      (cnd
                        (cnd
                          (cnd
                            (cnd
                              (Prog.call (callF En (runP En f) 123 [(Value.string (mkStr (List.take ((Int.toNat (IntKind.wrap IntKind.i64 ((IntKind.wrap IntKind.i64 ((IntKind.wrap IntKind.i64 ((intOf v7) + x1)) + (intOf v9))) + (2 : Int)))) - (Int.toNat (IntKind.wrap IntKind.i64 ((intOf v7) + x1)))) (List.drop (Int.toNat (IntKind.wrap IntKind.i64 ((intOf v7) + x1))) (Array.toList (ByteArray.data (strOf v10)))))))]) fun v11 =>
                                (cnd
                                  (cnd
                                    (Prog.ret (Value.tuple ⟨((Value.string (strOf (at_ (tupOf v11) 0))) :: ((Value.int IntKind.i64 (IntKind.wrap IntKind.i64 ((intOf v9) + (2 : Int)))) :: []))⟩))
                                    (p65_7 f x0 (IntKind.wrap IntKind.i64 ((intOf v7) + x1)))
                                    (boolOf (at_ (tupOf v11) 1)))
                                  Prog.fail
                                  ((isTupV v11) && (okNs ((Nm.one Kd.str) :: ((Nm.one Kd.bool) :: [])) (tupOf v11)))))
                              Prog.fail
                              ((Nat.ble (Int.toNat (IntKind.wrap IntKind.i64 ((intOf v7) + x1))) (Int.toNat (IntKind.wrap IntKind.i64 ((IntKind.wrap IntKind.i64 ((IntKind.wrap IntKind.i64 ((intOf v7) + x1)) + (intOf v9))) + (2 : Int))))) && (Nat.ble (Int.toNat (IntKind.wrap IntKind.i64 ((IntKind.wrap IntKind.i64 ((IntKind.wrap IntKind.i64 ((intOf v7) + x1)) + (intOf v9))) + (2 : Int)))) (List.length (Array.toList (ByteArray.data (strOf v10)))))))
                            Prog.fail
                            (decide ((0 : Int) ≤ (IntKind.wrap IntKind.i64 ((IntKind.wrap IntKind.i64 ((IntKind.wrap IntKind.i64 ((intOf v7) + x1)) + (intOf v9))) + (2 : Int))))))
                          Prog.fail
                          (decide ((0 : Int) ≤ (IntKind.wrap IntKind.i64 ((intOf v7) + x1)))))
                        Prog.fail
                        (okK Kd.str v10)))
                      (loadT En 9 x0 0))
                    (p65_7 f x0 (IntKind.wrap IntKind.i64 ((intOf v7) + x1)))
                    (decide ((intOf v9) ≥ (0 : Int))))
                  Prog.fail
                  (okK (Kd.int IntKind.i64) v9)))
              Prog.fail
              ((Nat.ble (Int.toNat (IntKind.wrap IntKind.i64 ((IntKind.wrap IntKind.i64 ((intOf v7) + x1)) + (1 : Int)))) (List.length (Array.toList (ByteArray.data (strOf v8))))) && (Nat.ble (List.length (Array.toList (ByteArray.data (strOf v8)))) (List.length (Array.toList (ByteArray.data (strOf v8)))))))
            Prog.fail
            (decide ((0 : Int) ≤ (IntKind.wrap IntKind.i64 ((IntKind.wrap IntKind.i64 ((intOf v7) + x1)) + (1 : Int))))))
          Prog.fail
          (okK Kd.str v8)))
        (loadT En 9 x0 0))
      Prog.fail
      (okK (Kd.int IntKind.i64) v7)))
    (loadT En 3 x0 1)) := by kernel_rfl
end Go.Proofs.YtmjbmbmnnephjaaGreatDoor
/- What comes of the points of a function: printed by the tool. -/
namespace Go.Proofs.YtmjbmbmnnephjaaGreatDoor
open Go Go.Ev Go.Proofs
set_option maxRecDepth 8000
set_option linter.unusedVariables false
theorem f66_eq (f : Nat) (x0 : ByteArray) (x1 : Int) : callF En (runP En (f + 1)) 66 [(Value.string x0), (Value.int IntKind.u8 x1)] =
  (Prog.call (callF En (runP En f) 124 [(Value.string x0), (Value.int IntKind.u8 x1)]) fun v2 =>
    (cnd
      (Prog.ret (Value.int IntKind.i64 (intOf v2)))
      Prog.fail
      (okK (Kd.int IntKind.i64) v2))) := by kernel_rfl
end Go.Proofs.YtmjbmbmnnephjaaGreatDoor
/- What comes of the points of a function: printed by the tool. -/
namespace Go.Proofs.YtmjbmbmnnephjaaGreatDoor
open Go Go.Ev Go.Proofs
set_option maxRecDepth 8000
set_option linter.unusedVariables false
noncomputable def p67_6 (f : Nat) (x0 : Nat) (x2 : Int) (x3 : Int) : Prog := runP En f 67 (tmL 126 [(0, (Value.pointer (Option.some (Addr.mk x0 0 Option.none)))), (2, (Value.int IntKind.i64 x2)), (3, (Value.int IntKind.u8 x3))]) [.code (cL (cL (cR (cR (cB 67))))), .code (cR (cL (cR (cR (cB 67))))), .code (cR (cR (cR (cB 67))))] [] none
noncomputable def p67_11 (f : Nat) (x0 : Nat) (x2 : Int) : Prog := runP En f 67 (tmL 126 [(0, (Value.pointer (Option.some (Addr.mk x0 0 Option.none)))), (2, (Value.int IntKind.i64 x2))]) [.code (cR (cR (cR (cR (cR (cB 67))))))] [] none
theorem p67_6_eq (f : Nat) (x0 : Nat) (x2 : Int) (x3 : Int) : p67_6 (f + 1) x0 x2 x3 =
  (cnd
    (Prog.call (callF En (runP En f) 35 [(Value.pointer (Option.some (Addr.mk x0 0 Option.none))), (Value.int IntKind.i64 (140 : Int)), (Value.int IntKind.i64 x2)]) fun v35 =>
      (cnd
        (Prog.ret (Value.tuple ⟨[]⟩))
        Prog.fail
        ((isTupV v35) && (okNs [] (tupOf v35)))))
    (Prog.call (callF En (runP En f) 66 [(Value.string (mkStr [40, 41, 91, 93, 123, 125, 59, 58])), (Value.int IntKind.u8 x3)]) fun v36 =>
      (cnd
        (cnd
          (Prog.call (callF En (runP En f) 35 [(Value.pointer (Option.some (Addr.mk x0 0 Option.none))), (Value.int IntKind.i64 (140 : Int)), (Value.int IntKind.i64 x2)]) fun v37 =>
            (cnd
              (Prog.ret (Value.tuple ⟨[]⟩))
              Prog.fail
              ((isTupV v37) && (okNs [] (tupOf v37)))))
          (callP (fun v38 =>
            (cnd
              (callP (fun v39 =>
                (cnd
                  (Prog.call (callF En (runP En f) 59 [(Value.pointer (Option.some (Addr.mk x0 0 Option.none))), (Value.int IntKind.i64 (0 : Int))]) fun v40 =>
                    (cnd
                      (cnd
                        (callP (fun v41 =>
                          (cnd
                            (callP (fun v42 =>
                              (p67_11 f x0 x2))
                              (storeT En 3 x0 1 (Value.int IntKind.i64 (IntKind.wrap IntKind.i64 ((intOf v41) + (1 : Int))))))
                            Prog.fail
                            (okK (Kd.int IntKind.i64) v41)))
                          (loadT En 3 x0 1))
                        (p67_11 f x0 x2)
                        (decide ((intOf v40) = (58 : Int))))
                      Prog.fail
                      (okK (Kd.int IntKind.u8) v40)))
                  (p67_11 f x0 x2)
                  (decide (x3 = (58 : Int)))))
                (storeT En 3 x0 1 (Value.int IntKind.i64 (IntKind.wrap IntKind.i64 ((intOf v38) + (1 : Int))))))
              Prog.fail
              (okK (Kd.int IntKind.i64) v38)))
            (loadT En 3 x0 1))
          (decide ((intOf v36) < (0 : Int))))
        Prog.fail
        (okK (Kd.int IntKind.i64) v36)))
    (decide (x3 = (0 : Int)))) := by kernel_rfl
theorem p67_11_eq (f : Nat) (x0 : Nat) (x2 : Int) : p67_11 (f + 1) x0 x2 =
  (Prog.seg (loadT En 9 x0 0) fun v43 s44 _ =>
    (cnd
      (Prog.seg (loadT En 3 x0 1) fun v45 s46 _ =>
        (gdL 3840 (writesOf s46) s46 [⟨6, writesOf s44, s44⟩]
          (cnd
            (cnd
              (cnd
                (cnd
                  (gd Bool.true
                    (Prog.seg (callF En (runP En f) 63 [(Value.pointer (Option.some (Addr.mk x0 0 Option.none))), (Value.int IntKind.i64 (6 : Int)), (Value.int IntKind.i64 x2), (Value.string (mkStr (List.take ((Int.toNat (intOf v45)) - (Int.toNat x2)) (List.drop (Int.toNat x2) (Array.toList (ByteArray.data (strOf v43))))))), (Value.agg ⟨((Value.int IntKind.i64 (0 : Int)) :: ((lstV []) :: ((lstV []) :: ((lstV []) :: []))))⟩)]) fun v47 s48 _ =>
                      (gdL 32767 (writesOf s48) s48 [⟨12, writesOf s46, s46⟩, ⟨6, writesOf s44, s44⟩]
                        (cnd
                          (Prog.ret (Value.tuple ⟨[]⟩))
                          Prog.fail
                          ((isTupV v47) && (okNs [] (tupOf v47)))))))
                  Prog.fail
                  ((Nat.ble (Int.toNat x2) (Int.toNat (intOf v45))) && (Nat.ble (Int.toNat (intOf v45)) (List.length (Array.toList (ByteArray.data (strOf v43)))))))
                Prog.fail
                (decide ((0 : Int) ≤ (intOf v45))))
              Prog.fail
              (decide ((0 : Int) ≤ x2)))
            Prog.fail
            (okK (Kd.int IntKind.i64) v45))))
      Prog.fail
      (okK Kd.str v43))) := by kernel_rfl
theorem f67_eq (f : Nat) (x0 : Nat) : callF En (runP En (f + 1)) 67 [(Value.pointer (Option.some (Addr.mk x0 0 Option.none)))] =
  (Prog.seg (loadT En 3 x0 1) fun v49 s50 _ =>
    (cnd
      (Prog.seg (callF En (runP En f) 59 [(Value.pointer (Option.some (Addr.mk x0 0 Option.none))), (Value.int IntKind.i64 (0 : Int))]) fun v51 s52 _ =>
        (gdL 224 (writesOf s52) s52 [⟨4, writesOf s50, s50⟩]
          (cnd
            (cnd
              (Prog.call (callF En (runP En f) 59 [(Value.pointer (Option.some (Addr.mk x0 0 Option.none))), (Value.int IntKind.i64 (1 : Int))]) fun v53 =>
                (cnd
                  (cnd
                    (Prog.call (callF En (runP En f) 59 [(Value.pointer (Option.some (Addr.mk x0 0 Option.none))), (Value.int IntKind.i64 (3 : Int))]) fun v54 =>
                      (cnd
                        (Prog.call (callF En (runP En f) 43 [(Value.int IntKind.u8 (intOf v54))]) fun v55 =>
                          (cnd
                            (cnd
                              (Prog.seg (callF En (runP En f) 59 [(Value.pointer (Option.some (Addr.mk x0 0 Option.none))), (Value.int IntKind.i64 (2 : Int))]) fun v56 s57 _ =>
                                (cnd
                                  (Prog.seg (callF En (runP En f) 66 [(Value.string (mkStr [98, 105, 115, 116, 100])), (Value.int IntKind.u8 (intOf v56))]) fun v58 s59 _ =>
                                    (gdL 31 (writesOf s59) s59 [⟨4, writesOf s57, s57⟩]
                                      (cnd
                                        (cnd
                                          (Prog.call (callF En (runP En f) 59 [(Value.pointer (Option.some (Addr.mk x0 0 Option.none))), (Value.int IntKind.i64 (2 : Int))]) fun v60 =>
                                            (cnd
                                              (cnd
                                                (callP (fun v61 =>
                                                  (cnd
                                                    (callP (fun v62 =>
                                                      (Prog.seg (loadT En 9 x0 0) fun v63 s64 _ =>
                                                        (cnd
                                                          (Prog.seg (loadT En 3 x0 1) fun v65 s66 _ =>
                                                            (gdL 3840 (writesOf s66) s66 [⟨6, writesOf s64, s64⟩]
                                                              (cnd
                                                                (cnd
                                                                  (cnd
                                                                    (cnd
                                                                      (gd Bool.true
                                                                        (Prog.seg (callF En (runP En f) 63 [(Value.pointer (Option.some (Addr.mk x0 0 Option.none))), (Value.int IntKind.i64 (1 : Int)), (Value.int IntKind.i64 (intOf v49)), (Value.string (mkStr (List.take ((Int.toNat (intOf v65)) - (Int.toNat (intOf v49))) (List.drop (Int.toNat (intOf v49)) (Array.toList (ByteArray.data (strOf v63))))))), (Value.agg ⟨((Value.int IntKind.i64 (IntKind.wrap IntKind.i64 ((intOf v58) + (1 : Int)))) :: ((lstV []) :: ((lstV []) :: ((lstV []) :: []))))⟩)]) fun v67 s68 _ =>
                                                                          (gdL 131071 (writesOf s68) s68 [⟨12, writesOf s66, s66⟩, ⟨6, writesOf s64, s64⟩]
                                                                            (cnd
                                                                              (Prog.ret (Value.tuple ⟨[]⟩))
                                                                              Prog.fail
                                                                              ((isTupV v67) && (okNs [] (tupOf v67)))))))
                                                                      Prog.fail
                                                                      ((Nat.ble (Int.toNat (intOf v49)) (Int.toNat (intOf v65))) && (Nat.ble (Int.toNat (intOf v65)) (List.length (Array.toList (ByteArray.data (strOf v63)))))))
                                                                    Prog.fail
                                                                    (decide ((0 : Int) ≤ (intOf v65))))
                                                                  Prog.fail
                                                                  (decide ((0 : Int) ≤ (intOf v49))))
                                                                Prog.fail
                                                                (okK (Kd.int IntKind.i64) v65))))
                                                          Prog.fail
                                                          (okK Kd.str v63))))
                                                      (storeT En 3 x0 1 (Value.int IntKind.i64 (IntKind.wrap IntKind.i64 ((intOf v61) + (3 : Int))))))
                                                    Prog.fail
                                                    (okK (Kd.int IntKind.i64) v61)))
                                                  (loadT En 3 x0 1))
                                                (p67_6 f x0 (intOf v49) (intOf v51))
                                                (Bool.not (decide ((intOf v60) = (0 : Int)))))
                                              Prog.fail
                                              (okK (Kd.int IntKind.u8) v60)))
                                          (p67_6 f x0 (intOf v49) (intOf v51))
                                          (decide ((intOf v58) ≥ (0 : Int))))
                                        Prog.fail
                                        (okK (Kd.int IntKind.i64) v58))))
                                  Prog.fail
                                  (okK (Kd.int IntKind.u8) v56)))
                              (p67_6 f x0 (intOf v49) (intOf v51))
                              (Bool.not (boolOf v55)))
                            Prog.fail
                            (okK Kd.bool v55)))
                        Prog.fail
                        (okK (Kd.int IntKind.u8) v54)))
                    (p67_6 f x0 (intOf v49) (intOf v51))
                    (decide ((intOf v53) = (41 : Int))))
                  Prog.fail
                  (okK (Kd.int IntKind.u8) v53)))
              (p67_6 f x0 (intOf v49) (intOf v51))
              (decide ((intOf v51) = (40 : Int))))
            Prog.fail
            (okK (Kd.int IntKind.u8) v51))))
      Prog.fail
      (okK (Kd.int IntKind.i64) v49))) := by kernel_rfl
end Go.Proofs.YtmjbmbmnnephjaaGreatDoor
/- What comes of the points of a function: printed by the tool. -/
namespace Go.Proofs.YtmjbmbmnnephjaaGreatDoor
open Go Go.Ev Go.Proofs
set_option maxRecDepth 8000
set_option linter.unusedVariables false
theorem f68_eq (f : Nat) (x0 : Int) : callF En (runP En (f + 1)) 68 [(Value.int IntKind.i64 x0)] =
  (Prog.call (callF En (runP En f) 125 [(Value.int IntKind.i64 x0)]) fun v4 =>
    (cnd
      (cnd
        (Prog.ret (Value.tuple ⟨((Value.bool Bool.false) :: ((Value.bool Bool.true) :: ((Value.bool Bool.false) :: ((Value.bool Bool.true) :: []))))⟩))
        (cnd
          (Prog.call (callF En (runP En f) 125 [(Value.int IntKind.i64 x0)]) fun v5 =>
            (cnd
              (cnd
                (Prog.call (callF En (runP En f) 125 [(Value.int IntKind.i64 x0)]) fun v6 =>
                  (cnd
                    (cnd
                      (Prog.ret (Value.tuple ⟨((Value.bool Bool.true) :: ((Value.bool Bool.false) :: ((Value.bool Bool.false) :: ((Value.bool Bool.true) :: []))))⟩))
                      (cnd
                        (Prog.ret (Value.tuple ⟨((Value.bool Bool.false) :: ((Value.bool Bool.false) :: ((Value.bool Bool.true) :: ((Value.bool Bool.true) :: []))))⟩))
                        (cnd
                          (Prog.ret (Value.tuple ⟨((Value.bool Bool.false) :: ((Value.bool Bool.false) :: ((Value.bool Bool.true) :: ((Value.bool Bool.true) :: []))))⟩))
                          (cnd
                            (Prog.ret (Value.tuple ⟨((Value.bool Bool.false) :: ((Value.bool Bool.true) :: ((Value.bool Bool.true) :: ((Value.bool Bool.true) :: []))))⟩))
                            (cnd
                              (Prog.ret (Value.tuple ⟨((Value.bool Bool.false) :: ((Value.bool Bool.true) :: ((Value.bool Bool.false) :: ((Value.bool Bool.true) :: []))))⟩))
                              (Prog.ret (Value.tuple ⟨((Value.bool Bool.false) :: ((Value.bool Bool.false) :: ((Value.bool Bool.false) :: ((Value.bool (decide (x0 = (101 : Int)))) :: []))))⟩))
                              (decide (x0 = (100 : Int))))
                            (decide (x0 = (98 : Int))))
                          (decide (x0 = (99 : Int))))
                        (decide (x0 = (0 : Int))))
                      (decide ((intOf v6) ≤ (5 : Int))))
                    Prog.fail
                    (okK (Kd.int IntKind.i64) v6)))
                (cnd
                  (Prog.ret (Value.tuple ⟨((Value.bool Bool.false) :: ((Value.bool Bool.false) :: ((Value.bool Bool.true) :: ((Value.bool Bool.true) :: []))))⟩))
                  (cnd
                    (Prog.ret (Value.tuple ⟨((Value.bool Bool.false) :: ((Value.bool Bool.false) :: ((Value.bool Bool.true) :: ((Value.bool Bool.true) :: []))))⟩))
                    (cnd
                      (Prog.ret (Value.tuple ⟨((Value.bool Bool.false) :: ((Value.bool Bool.true) :: ((Value.bool Bool.true) :: ((Value.bool Bool.true) :: []))))⟩))
                      (cnd
                        (Prog.ret (Value.tuple ⟨((Value.bool Bool.false) :: ((Value.bool Bool.true) :: ((Value.bool Bool.false) :: ((Value.bool Bool.true) :: []))))⟩))
                        (Prog.ret (Value.tuple ⟨((Value.bool Bool.false) :: ((Value.bool Bool.false) :: ((Value.bool Bool.false) :: ((Value.bool (decide (x0 = (101 : Int)))) :: []))))⟩))
                        (decide (x0 = (100 : Int))))
                      (decide (x0 = (98 : Int))))
                    (decide (x0 = (99 : Int))))
                  (decide (x0 = (0 : Int))))
                (decide ((intOf v5) ≥ (1 : Int))))
              Prog.fail
              (okK (Kd.int IntKind.i64) v5)))
          (cnd
            (Prog.ret (Value.tuple ⟨((Value.bool Bool.false) :: ((Value.bool Bool.false) :: ((Value.bool Bool.true) :: ((Value.bool Bool.true) :: []))))⟩))
            (cnd
              (Prog.ret (Value.tuple ⟨((Value.bool Bool.false) :: ((Value.bool Bool.false) :: ((Value.bool Bool.true) :: ((Value.bool Bool.true) :: []))))⟩))
              (cnd
                (Prog.ret (Value.tuple ⟨((Value.bool Bool.false) :: ((Value.bool Bool.true) :: ((Value.bool Bool.true) :: ((Value.bool Bool.true) :: []))))⟩))
                (cnd
                  (Prog.ret (Value.tuple ⟨((Value.bool Bool.false) :: ((Value.bool Bool.true) :: ((Value.bool Bool.false) :: ((Value.bool Bool.true) :: []))))⟩))
                  (Prog.ret (Value.tuple ⟨((Value.bool Bool.false) :: ((Value.bool Bool.false) :: ((Value.bool Bool.false) :: ((Value.bool (decide (x0 = (101 : Int)))) :: []))))⟩))
                  (decide (x0 = (100 : Int))))
                (decide (x0 = (98 : Int))))
              (decide (x0 = (99 : Int))))
            (decide (x0 = (0 : Int))))
          (Bool.not (decide (x0 = (0 : Int)))))
        (decide ((intOf v4) = (3 : Int))))
      Prog.fail
      (okK (Kd.int IntKind.i64) v4))) := by kernel_rfl
end Go.Proofs.YtmjbmbmnnephjaaGreatDoor
/- What comes of the points of a function: printed by the tool. -/
namespace Go.Proofs.YtmjbmbmnnephjaaGreatDoor
open Go Go.Ev Go.Proofs
set_option maxRecDepth 8000
set_option linter.unusedVariables false
theorem f69_eq (f : Nat) (x0_0 : Int) (x0_1 : List Value) (x0_2 : List Value) (x0_3 : List Value) : callF En (runP En (f + 1)) 69 [(Value.agg ⟨((Value.int IntKind.i64 x0_0) :: ((lstV x0_1) :: ((lstV x0_2) :: ((lstV x0_3) :: []))))⟩)] =
  (gd Bool.true
    (callP (fun v14 =>
      (cnd
        (callP (fun v15 =>
          (cnd
            (cnd
              (callP (fun v16 =>
                (cnd
                  (Prog.ret (Value.bool (decide ((Int.ofNat (List.length (elems v16))) > (65536 : Int)))))
                  Prog.fail
                  (isLst v16)))
                (loadT En 29 (blkOf v14) ((offOf v14) + 2)))
              (callP (fun v17 =>
                (cnd
                  (Prog.call (callF En (runP En f) 15 [(Value.agg ⟨((Value.int IntKind.i64 (intOf (at_ (aggOf v17) 0))) :: ((lstV (elems (at_ (aggOf v17) 1))) :: ((lstV (elems (at_ (aggOf v17) 2))) :: ((lstV (elems (at_ (aggOf v17) 3))) :: []))))⟩)]) fun v18 =>
                    (cnd
                      (cnd
                        (callP (fun v19 =>
                          (cnd
                            (Prog.ret (Value.bool (decide ((Int.ofNat (List.length (elems v19))) > (65536 : Int)))))
                            Prog.fail
                            (isLst v19)))
                          (loadT En 28 (blkOf v14) ((offOf v14) + 1)))
                        (callP (fun v20 =>
                          (cnd
                            (cnd
                              (callP (fun v21 =>
                                (cnd
                                  (cnd
                                    (Prog.ret (Value.bool Bool.true))
                                    (callP (fun v22 =>
                                      (cnd
                                        (Prog.ret (Value.bool (decide ((Int.ofNat (List.length (elems v22))) > (64 : Int)))))
                                        Prog.fail
                                        (isLst v22)))
                                      (loadT En 30 (blkOf v14) ((offOf v14) + 3)))
                                    (decide ((Int.ofNat (List.length (elems v21))) > (64 : Int))))
                                  Prog.fail
                                  (isLst v21)))
                                (loadT En 29 (blkOf v14) ((offOf v14) + 2)))
                              (callP (fun v23 =>
                                (cnd
                                  (cnd
                                    (callP (fun v24 =>
                                      (cnd
                                        (Prog.ret (Value.bool (decide ((Int.ofNat (List.length (elems v24))) > (65536 : Int)))))
                                        Prog.fail
                                        (isLst v24)))
                                      (loadT En 30 (blkOf v14) ((offOf v14) + 3)))
                                    (Prog.ret (Value.bool Bool.false))
                                    (decide ((intOf v23) = (0 : Int))))
                                  Prog.fail
                                  (okK (Kd.int IntKind.i64) v23)))
                                (loadT En 3 (blkOf v14) ((offOf v14) + 0)))
                              (decide ((intOf v20) = (98 : Int))))
                            Prog.fail
                            (okK (Kd.int IntKind.i64) v20)))
                          (loadT En 3 (blkOf v14) ((offOf v14) + 0)))
                        (boolOf v18))
                      Prog.fail
                      (okK Kd.bool v18)))
                  Prog.fail
                  ((isAggV v17) && (okKs ((Kd.int IntKind.i64) :: (Kd.lst :: (Kd.lst :: (Kd.lst :: [])))) (aggOf v17)))))
                (loadT En 32 (blkOf v14) (offOf v14)))
              (decide ((intOf v15) = (3 : Int))))
            Prog.fail
            (okK (Kd.int IntKind.i64) v15)))
          (loadT En 3 (blkOf v14) ((offOf v14) + 0)))
        Prog.fail
        (isPt v14)))
      (Prog.newH (Hdr.mk 4 32 Bool.false Bool.true Bool.true 0 Bool.false Bool.false []) ((Value.int IntKind.i64 x0_0) :: ((lstV x0_1) :: ((lstV x0_2) :: ((lstV x0_3) :: [])))) (fun z13 => (Prog.ret (itP z13)))))) := by kernel_rfl
end Go.Proofs.YtmjbmbmnnephjaaGreatDoor
/- What comes of the points of a function: printed by the tool. -/
namespace Go.Proofs.YtmjbmbmnnephjaaGreatDoor
open Go Go.Ev Go.Proofs
set_option maxRecDepth 8000
set_option linter.unusedVariables false
noncomputable def p70_4 (f : Nat) (x1 : Nat) (x1o : Nat) (x3 : Int) : Prog := runP En f 70 (tmL 23 [(1, (Value.pointer (Option.some (Addr.mk x1 x1o Option.none)))), (3, (Value.int IntKind.i64 x3))]) [.code (cL (cL (cR (cR (cR (cB 70)))))), .code (cR (cL (cR (cR (cR (cB 70)))))), .code (cR (cR (cR (cR (cB 70)))))] [] none
noncomputable def p70_5 (f : Nat) (x1 : Nat) (x1o : Nat) (x3 : Int) (x4 : Int) : Prog := runP En f 70 (tmL 23 [(1, (Value.pointer (Option.some (Addr.mk x1 x1o Option.none)))), (3, (Value.int IntKind.i64 x3)), (4, (Value.int IntKind.i64 x4))]) [.code (cL (cL (cI (cI (cR (cL (cR (cR (cR (cB 70)))))))))), .code (cR (cL (cI (cI (cR (cL (cR (cR (cR (cB 70)))))))))), .code (cR (cI (cI (cR (cL (cR (cR (cR (cB 70))))))))), .inLoop (cI (cI (cR (cL (cR (cR (cR (cB 70)))))))), .inBlock 0, .code (cR (cR (cR (cR (cB 70)))))] [] none
theorem p70_4_eq (f : Nat) (x1 : Nat) (x1o : Nat) (x3 : Int) : p70_4 (f + 1) x1 x1o x3 =
  (p70_5 f x1 x1o x3 (0 : Int)) := by kernel_rfl
theorem p70_5_eq (f : Nat) (x1 : Nat) (x1o : Nat) (x3 : Int) (x4 : Int) : p70_5 (f + 1) x1 x1o x3 x4 =
  (callP (fun v6 =>
    (cnd
      (cnd
        (callP (fun v7 =>
          (cnd
            (cnd
              (cnd
                (cnd
                  (cnd
                    (cnd
                      (Prog.ret (Value.bool Bool.true))
                      (p70_5 f x1 x1o x3 (IntKind.wrap IntKind.i64 (x4 + (1 : Int))))
                      (decide ((Int.ofNat (List.length (Array.toList (ByteArray.data (strOf (List.headD (Array.toList (Value.cells (at_ (elems v7) (Int.toNat x4)))) (Value.tuple ⟨[]⟩))))))) > x3)))
                    Prog.fail
                    (okK Kd.str (List.headD (Array.toList (Value.cells (at_ (elems v7) (Int.toNat x4)))) (Value.tuple ⟨[]⟩))))
                  Prog.fail
                  (Nat.ble 1 (List.length (Array.toList (Value.cells (at_ (elems v7) (Int.toNat x4)))))))
                Prog.fail
                (((Nat.ble (Nat.succ (Int.toNat x4)) (List.length (elems v7))) && Bool.true) && (hdOk 1 (elems v7))))
              Prog.fail
              (decide ((0 : Int) ≤ x4)))
            Prog.fail
            (isLst v7)))
          (loadT En 29 x1 (x1o + 2)))
        (Prog.ret (Value.bool Bool.false))
        (decide (x4 < (Int.ofNat (List.length (elems v6))))))
      Prog.fail
      (isLst v6)))
    (loadT En 29 x1 (x1o + 2))) := by kernel_rfl
theorem f70_eq (f : Nat) (x0_0 : Int) (x0_1 : List Value) (x0_2 : List Value) (x0_3 : List Value) : callF En (runP En (f + 1)) 70 [(Value.agg ⟨((Value.int IntKind.i64 x0_0) :: ((lstV x0_1) :: ((lstV x0_2) :: ((lstV x0_3) :: []))))⟩)] =
  (gd Bool.true
    (callP (fun v9 =>
      (cnd
        (callP (fun v10 =>
          (cnd
            (cnd
              (p70_4 f (blkOf v9) (offOf v9) (65536 : Int))
              (p70_4 f (blkOf v9) (offOf v9) (64 : Int))
              (decide ((intOf v10) = (100 : Int))))
            Prog.fail
            (okK (Kd.int IntKind.i64) v10)))
          (loadT En 3 (blkOf v9) ((offOf v9) + 0)))
        Prog.fail
        (isPt v9)))
      (Prog.newH (Hdr.mk 4 32 Bool.false Bool.true Bool.true 0 Bool.false Bool.false []) ((Value.int IntKind.i64 x0_0) :: ((lstV x0_1) :: ((lstV x0_2) :: ((lstV x0_3) :: [])))) (fun z8 => (Prog.ret (itP z8)))))) := by kernel_rfl
end Go.Proofs.YtmjbmbmnnephjaaGreatDoor
/- What comes of the points of a function: printed by the tool. -/
namespace Go.Proofs.YtmjbmbmnnephjaaGreatDoor
open Go Go.Ev Go.Proofs
set_option maxRecDepth 8000
set_option linter.unusedVariables false
noncomputable def p71_5 (f : Nat) (x1 : Nat) (x1o : Nat) (x3 : Int) : Prog := runP En f 71 (tmL 152 [(1, (Value.pointer (Option.some (Addr.mk x1 x1o Option.none)))), (3, (Value.int IntKind.i64 x3))]) [.code (cL (cL (cI (cI (cR (cL (cR (cR (cR (cI (cL (cR (cB 71))))))))))))), .code (cR (cL (cI (cI (cR (cL (cR (cR (cR (cI (cL (cR (cB 71))))))))))))), .code (cR (cI (cI (cR (cL (cR (cR (cR (cI (cL (cR (cB 71)))))))))))), .inLoop (cI (cI (cR (cL (cR (cR (cR (cI (cL (cR (cB 71))))))))))), .inBlock 1, .inBlock 0, .code (cR (cR (cB 71)))] [] none
noncomputable def p71_18 (f : Nat) (x1 : Nat) (x1o : Nat) : Prog := runP En f 71 (tmL 152 [(1, (Value.pointer (Option.some (Addr.mk x1 x1o Option.none))))]) [.code (cL (cL (cR (cR (cB 71))))), .code (cR (cL (cR (cR (cB 71))))), .code (cR (cR (cR (cB 71))))] [] none
noncomputable def p71_19 (f : Nat) (x1 : Nat) (x1o : Nat) (x4 : Int) : Prog := runP En f 71 (tmL 152 [(1, (Value.pointer (Option.some (Addr.mk x1 x1o Option.none)))), (4, (Value.int IntKind.i64 x4))]) [.code (cL (cL (cI (cI (cR (cL (cR (cR (cB 71))))))))), .code (cR (cL (cI (cI (cR (cL (cR (cR (cB 71))))))))), .code (cR (cI (cI (cR (cL (cR (cR (cB 71)))))))), .inLoop (cI (cI (cR (cL (cR (cR (cB 71))))))), .inBlock 3, .code (cR (cR (cR (cB 71))))] [] none
theorem p71_5_eq (f : Nat) (x1 : Nat) (x1o : Nat) (x3 : Int) : p71_5 (f + 1) x1 x1o x3 =
  (callP (fun v77 =>
    (cnd
      (cnd
        (callP (fun v78 =>
          (cnd
            (cnd
              (cnd
                (cnd
                  (cnd
                    (cnd
                      (callP (fun v79 =>
                        (cnd
                          (cnd
                            (cnd
                              (cnd
                                (cnd
                                  (cnd
                                    (Prog.ret (Value.bool Bool.false))
                                    (p71_5 f x1 x1o (IntKind.wrap IntKind.i64 (x3 + (1 : Int))))
                                    (Bool.not (decide ((intOf (List.headD (Array.toList (Value.cells (at_ (elems v79) (Int.toNat x3)))) (Value.tuple ⟨[]⟩))) = (1 : Int)))))
                                  Prog.fail
                                  (okK (Kd.int IntKind.i64) (List.headD (Array.toList (Value.cells (at_ (elems v79) (Int.toNat x3)))) (Value.tuple ⟨[]⟩))))
                                Prog.fail
                                (Nat.ble 1 (List.length (Array.toList (Value.cells (at_ (elems v79) (Int.toNat x3)))))))
                              Prog.fail
                              (((Nat.ble (Nat.succ (Int.toNat x3)) (List.length (elems v79))) && Bool.true) && (hdOk 1 (elems v79))))
                            Prog.fail
                            (decide ((0 : Int) ≤ x3)))
                          Prog.fail
                          (isLst v79)))
                        (loadT En 28 x1 (x1o + 1)))
                      (p71_5 f x1 x1o (IntKind.wrap IntKind.i64 (x3 + (1 : Int))))
                      (Bool.not (decide ((intOf (List.headD (Array.toList (Value.cells (at_ (elems v78) (Int.toNat x3)))) (Value.tuple ⟨[]⟩))) = (0 : Int)))))
                    Prog.fail
                    (okK (Kd.int IntKind.i64) (List.headD (Array.toList (Value.cells (at_ (elems v78) (Int.toNat x3)))) (Value.tuple ⟨[]⟩))))
                  Prog.fail
                  (Nat.ble 1 (List.length (Array.toList (Value.cells (at_ (elems v78) (Int.toNat x3)))))))
                Prog.fail
                (((Nat.ble (Nat.succ (Int.toNat x3)) (List.length (elems v78))) && Bool.true) && (hdOk 1 (elems v78))))
              Prog.fail
              (decide ((0 : Int) ≤ x3)))
            Prog.fail
            (isLst v78)))
          (loadT En 28 x1 (x1o + 1)))
        (p71_18 f x1 x1o)
        (decide (x3 < (Int.ofNat (List.length (elems v77))))))
      Prog.fail
      (isLst v77)))
    (loadT En 28 x1 (x1o + 1))) := by kernel_rfl
theorem p71_18_eq (f : Nat) (x1 : Nat) (x1o : Nat) : p71_18 (f + 1) x1 x1o =
  (p71_19 f x1 x1o (0 : Int)) := by kernel_rfl
theorem p71_19_eq (f : Nat) (x1 : Nat) (x1o : Nat) (x4 : Int) : p71_19 (f + 1) x1 x1o x4 =
  (callP (fun v80 =>
    (cnd
      (cnd
        (callP (fun v81 =>
          (cnd
            (Prog.call (callF En (runP En f) 125 [(Value.int IntKind.i64 (intOf v81))]) fun v82 =>
              (cnd
                (cnd
                  (callP (fun v83 =>
                    (cnd
                      (cnd
                        (cnd
                          (cnd
                            (cnd
                              (Prog.call (callF En (runP En f) 129 [(Value.string (strOf (List.headD (Array.toList (Value.cells (at_ (elems v83) (Int.toNat x4)))) (Value.tuple ⟨[]⟩))))]) fun v84 =>
                                (cnd
                                  (cnd
                                    (Prog.ret (Value.bool Bool.false))
                                    (p71_19 f x1 x1o (IntKind.wrap IntKind.i64 (x4 + (1 : Int))))
                                    (Bool.not (boolOf v84)))
                                  Prog.fail
                                  (okK Kd.bool v84)))
                              Prog.fail
                              (okK Kd.str (List.headD (Array.toList (Value.cells (at_ (elems v83) (Int.toNat x4)))) (Value.tuple ⟨[]⟩))))
                            Prog.fail
                            (Nat.ble 1 (List.length (Array.toList (Value.cells (at_ (elems v83) (Int.toNat x4)))))))
                          Prog.fail
                          (((Nat.ble (Nat.succ (Int.toNat x4)) (List.length (elems v83))) && Bool.true) && (hdOk 1 (elems v83))))
                        Prog.fail
                        (decide ((0 : Int) ≤ x4)))
                      Prog.fail
                      (isLst v83)))
                    (loadT En 29 x1 (x1o + 2)))
                  (Prog.ret (Value.bool Bool.true))
                  (decide ((intOf v82) = (3 : Int))))
                Prog.fail
                (okK (Kd.int IntKind.i64) v82)))
            Prog.fail
            (okK (Kd.int IntKind.i64) v81)))
          (loadT En 3 x1 (x1o + 0)))
        (Prog.ret (Value.bool Bool.true))
        (decide (x4 < (Int.ofNat (List.length (elems v80))))))
      Prog.fail
      (isLst v80)))
    (loadT En 29 x1 (x1o + 2))) := by kernel_rfl
theorem f71_eq (f : Nat) (x0_0 : Int) (x0_1 : List Value) (x0_2 : List Value) (x0_3 : List Value) : callF En (runP En (f + 1)) 71 [(Value.agg ⟨((Value.int IntKind.i64 x0_0) :: ((lstV x0_1) :: ((lstV x0_2) :: ((lstV x0_3) :: []))))⟩)] =
  (gd Bool.true
    (callP (fun v86 =>
      (cnd
        (callP (fun v87 =>
          (cnd
            (Prog.call (callF En (runP En f) 14 [(Value.agg ⟨((Value.int IntKind.i64 (intOf (at_ (aggOf v87) 0))) :: ((lstV (elems (at_ (aggOf v87) 1))) :: ((lstV (elems (at_ (aggOf v87) 2))) :: ((lstV (elems (at_ (aggOf v87) 3))) :: []))))⟩)]) fun v88 =>
              (cnd
                (cnd
                  (callP (fun v89 =>
                    (cnd
                      (callP (fun v90 =>
                        (cnd
                          (cnd
                            (Prog.ret (Value.bool Bool.false))
                            (callP (fun v91 =>
                              (cnd
                                (Prog.call (callF En (runP En f) 125 [(Value.int IntKind.i64 (intOf v91))]) fun v92 =>
                                  (cnd
                                    (cnd
                                      (p71_5 f (blkOf v86) (offOf v86) (0 : Int))
                                      (callP (fun v93 =>
                                        (cnd
                                          (cnd
                                            (Prog.seg (loadT En 29 (blkOf v86) ((offOf v86) + 2)) fun v94 s95 _ =>
                                              (cnd
                                                (Prog.seg (builtinA En Builtin.len (29 :: []) ((lstV (elems v94)) :: [])) fun v96 s97 _ =>
                                                  (gdL 3 (writesOf s97) s97 [⟨1, writesOf s95, s95⟩]
                                                    (cnd
                                                      (cnd
                                                        (Prog.ret (Value.bool Bool.false))
                                                        (Prog.seg (loadT En 29 (blkOf v86) ((offOf v86) + 2)) fun v98 s99 _ =>
                                                          (gdL 63 (writesOf s99) s99 [⟨2, writesOf s97, s97⟩, ⟨1, writesOf s95, s95⟩]
                                                            (cnd
                                                              (cnd
                                                                (cnd
                                                                  (cnd
                                                                    (cnd
                                                                      (Prog.ret (Value.bool Bool.false))
                                                                      (Prog.seg (loadT En 29 (blkOf v86) ((offOf v86) + 2)) fun v100 s101 _ =>
                                                                        (gdL 16383 (writesOf s101) s101 [⟨6, writesOf s99, s99⟩, ⟨2, writesOf s97, s97⟩, ⟨1, writesOf s95, s95⟩]
                                                                          (cnd
                                                                            (cnd
                                                                              (cnd
                                                                                (cnd
                                                                                  (cnd
                                                                                    (cnd
                                                                                      (Prog.ret (Value.bool Bool.false))
                                                                                      (Prog.seg (loadT En 29 (blkOf v86) ((offOf v86) + 2)) fun v102 s103 _ =>
                                                                                        (gdL 4194303 (writesOf s103) s103 [⟨14, writesOf s101, s101⟩, ⟨6, writesOf s99, s99⟩, ⟨2, writesOf s97, s97⟩, ⟨1, writesOf s95, s95⟩]
                                                                                          (cnd
                                                                                            (cnd
                                                                                              (cnd
                                                                                                (cnd
                                                                                                  (Prog.seg (loadT En 29 (blkOf v86) ((offOf v86) + 2)) fun v104 s105 _ =>
                                                                                                    (gdL 35651583 (writesOf s105) s105 [⟨22, writesOf s103, s103⟩, ⟨14, writesOf s101, s101⟩, ⟨6, writesOf s99, s99⟩, ⟨2, writesOf s97, s97⟩, ⟨1, writesOf s95, s95⟩]
                                                                                                      (cnd
                                                                                                        (cnd
                                                                                                          (cnd
                                                                                                            (cnd
                                                                                                              (cnd
                                                                                                                (cnd
                                                                                                                  (cnd
                                                                                                                    (Prog.ret (Value.bool Bool.false))
                                                                                                                    (p71_18 f (blkOf v86) (offOf v86))
                                                                                                                    (Bool.not (decide ((Int.ofNat (byteAt (strOf (List.headD (Array.toList (Value.cells (at_ (elems v102) 0))) (Value.tuple ⟨[]⟩))) (Int.toNat (IntKind.wrap IntKind.i64 (Int.subNatNat (List.length (Array.toList (ByteArray.data (strOf (List.headD (Array.toList (Value.cells (at_ (elems v104) 0))) (Value.tuple ⟨[]⟩)))))) 1))))) = (125 : Int)))))
                                                                                                                  Prog.fail
                                                                                                                  (Nat.ble (Nat.succ (Int.toNat (IntKind.wrap IntKind.i64 (Int.subNatNat (List.length (Array.toList (ByteArray.data (strOf (List.headD (Array.toList (Value.cells (at_ (elems v104) 0))) (Value.tuple ⟨[]⟩)))))) 1)))) (List.length (Array.toList (ByteArray.data (strOf (List.headD (Array.toList (Value.cells (at_ (elems v102) 0))) (Value.tuple ⟨[]⟩))))))))
                                                                                                                Prog.fail
                                                                                                                (decide ((0 : Int) ≤ (IntKind.wrap IntKind.i64 (Int.subNatNat (List.length (Array.toList (ByteArray.data (strOf (List.headD (Array.toList (Value.cells (at_ (elems v104) 0))) (Value.tuple ⟨[]⟩)))))) 1)))))
                                                                                                              Prog.fail
                                                                                                              (okK Kd.str (List.headD (Array.toList (Value.cells (at_ (elems v104) 0))) (Value.tuple ⟨[]⟩))))
                                                                                                            Prog.fail
                                                                                                            (Nat.ble 1 (List.length (Array.toList (Value.cells (at_ (elems v104) 0))))))
                                                                                                          Prog.fail
                                                                                                          (((Nat.ble 1 (List.length (elems v104))) && Bool.true) && (hdOk 1 (elems v104))))
                                                                                                        Prog.fail
                                                                                                        (isLst v104))))
                                                                                                  Prog.fail
                                                                                                  (okK Kd.str (List.headD (Array.toList (Value.cells (at_ (elems v102) 0))) (Value.tuple ⟨[]⟩))))
                                                                                                Prog.fail
                                                                                                (Nat.ble 1 (List.length (Array.toList (Value.cells (at_ (elems v102) 0))))))
                                                                                              Prog.fail
                                                                                              (((Nat.ble 1 (List.length (elems v102))) && Bool.true) && (hdOk 1 (elems v102))))
                                                                                            Prog.fail
                                                                                            (isLst v102))))
                                                                                      (Bool.not (decide ((Int.ofNat (byteAt (strOf (List.headD (Array.toList (Value.cells (at_ (elems v100) 0))) (Value.tuple ⟨[]⟩))) 0)) = (123 : Int)))))
                                                                                    Prog.fail
                                                                                    (Nat.ble 1 (List.length (Array.toList (ByteArray.data (strOf (List.headD (Array.toList (Value.cells (at_ (elems v100) 0))) (Value.tuple ⟨[]⟩))))))))
                                                                                  Prog.fail
                                                                                  (okK Kd.str (List.headD (Array.toList (Value.cells (at_ (elems v100) 0))) (Value.tuple ⟨[]⟩))))
                                                                                Prog.fail
                                                                                (Nat.ble 1 (List.length (Array.toList (Value.cells (at_ (elems v100) 0))))))
                                                                              Prog.fail
                                                                              (((Nat.ble 1 (List.length (elems v100))) && Bool.true) && (hdOk 1 (elems v100))))
                                                                            Prog.fail
                                                                            (isLst v100))))
                                                                      (decide ((Int.ofNat (List.length (Array.toList (ByteArray.data (strOf (List.headD (Array.toList (Value.cells (at_ (elems v98) 0))) (Value.tuple ⟨[]⟩))))))) < (2 : Int))))
                                                                    Prog.fail
                                                                    (okK Kd.str (List.headD (Array.toList (Value.cells (at_ (elems v98) 0))) (Value.tuple ⟨[]⟩))))
                                                                  Prog.fail
                                                                  (Nat.ble 1 (List.length (Array.toList (Value.cells (at_ (elems v98) 0))))))
                                                                Prog.fail
                                                                (((Nat.ble 1 (List.length (elems v98))) && Bool.true) && (hdOk 1 (elems v98))))
                                                              Prog.fail
                                                              (isLst v98))))
                                                        (Bool.not (decide ((intOf v96) = (1 : Int)))))
                                                      Prog.fail
                                                      (okK (Kd.int IntKind.i64) v96))))
                                                Prog.fail
                                                (isLst v94)))
                                            (callP (fun v106 =>
                                              (cnd
                                                (cnd
                                                  (callP (fun v107 =>
                                                    (cnd
                                                      (Prog.call (callF En (runP En f) 126 [(Value.agg ⟨((Value.int IntKind.i64 (intOf (at_ (aggOf v107) 0))) :: ((lstV (elems (at_ (aggOf v107) 1))) :: ((lstV (elems (at_ (aggOf v107) 2))) :: ((lstV (elems (at_ (aggOf v107) 3))) :: []))))⟩)]) fun v108 =>
                                                        (cnd
                                                          (Prog.ret (Value.bool (boolOf v108)))
                                                          Prog.fail
                                                          (okK Kd.bool v108)))
                                                      Prog.fail
                                                      ((isAggV v107) && (okKs ((Kd.int IntKind.i64) :: (Kd.lst :: (Kd.lst :: (Kd.lst :: [])))) (aggOf v107)))))
                                                    (loadT En 32 (blkOf v86) (offOf v86)))
                                                  (callP (fun v109 =>
                                                    (cnd
                                                      (cnd
                                                        (callP (fun v110 =>
                                                          (cnd
                                                            (Prog.call (callF En (runP En f) 127 [(Value.agg ⟨((Value.int IntKind.i64 (intOf (at_ (aggOf v110) 0))) :: ((lstV (elems (at_ (aggOf v110) 1))) :: ((lstV (elems (at_ (aggOf v110) 2))) :: ((lstV (elems (at_ (aggOf v110) 3))) :: []))))⟩)]) fun v111 =>
                                                              (cnd
                                                                (Prog.ret (Value.bool (boolOf v111)))
                                                                Prog.fail
                                                                (okK Kd.bool v111)))
                                                            Prog.fail
                                                            ((isAggV v110) && (okKs ((Kd.int IntKind.i64) :: (Kd.lst :: (Kd.lst :: (Kd.lst :: [])))) (aggOf v110)))))
                                                          (loadT En 32 (blkOf v86) (offOf v86)))
                                                        (callP (fun v112 =>
                                                          (cnd
                                                            (cnd
                                                              (callP (fun v113 =>
                                                                (cnd
                                                                  (cnd
                                                                    (callP (fun v114 =>
                                                                      (cnd
                                                                        (cnd
                                                                          (cnd
                                                                            (cnd
                                                                              (Prog.call (callF En (runP En f) 128 [(Value.agg ⟨((Value.int IntKind.i64 (intOf (at_ (List.take 4 (Array.toList (Value.cells (at_ (elems v114) 0)))) 0))) :: ((lstV (elems (at_ (List.take 4 (Array.toList (Value.cells (at_ (elems v114) 0)))) 1))) :: ((lstV (elems (at_ (List.take 4 (Array.toList (Value.cells (at_ (elems v114) 0)))) 2))) :: ((lstV (elems (at_ (List.take 4 (Array.toList (Value.cells (at_ (elems v114) 0)))) 3))) :: []))))⟩)]) fun v115 =>
                                                                                (cnd
                                                                                  (cnd
                                                                                    (callP (fun v116 =>
                                                                                      (cnd
                                                                                        (cnd
                                                                                          (cnd
                                                                                            (cnd
                                                                                              (Prog.call (callF En (runP En f) 128 [(Value.agg ⟨((Value.int IntKind.i64 (intOf (at_ (List.take 4 (Array.toList (Value.cells (at_ (elems v116) 1)))) 0))) :: ((lstV (elems (at_ (List.take 4 (Array.toList (Value.cells (at_ (elems v116) 1)))) 1))) :: ((lstV (elems (at_ (List.take 4 (Array.toList (Value.cells (at_ (elems v116) 1)))) 2))) :: ((lstV (elems (at_ (List.take 4 (Array.toList (Value.cells (at_ (elems v116) 1)))) 3))) :: []))))⟩)]) fun v117 =>
                                                                                                (cnd
                                                                                                  (cnd
                                                                                                    (Prog.ret (Value.bool Bool.true))
                                                                                                    (callP (fun v118 =>
                                                                                                      (cnd
                                                                                                        (cnd
                                                                                                          (cnd
                                                                                                            (cnd
                                                                                                              (cnd
                                                                                                                (cnd
                                                                                                                  (callP (fun v119 =>
                                                                                                                    (cnd
                                                                                                                      (cnd
                                                                                                                        (cnd
                                                                                                                          (cnd
                                                                                                                            (cnd
                                                                                                                              (Prog.ret (Value.bool (decide ((intOf (List.headD (Array.toList (Value.cells (at_ (elems v119) 1))) (Value.tuple ⟨[]⟩))) = (98 : Int)))))
                                                                                                                              Prog.fail
                                                                                                                              (okK (Kd.int IntKind.i64) (List.headD (Array.toList (Value.cells (at_ (elems v119) 1))) (Value.tuple ⟨[]⟩))))
                                                                                                                            Prog.fail
                                                                                                                            (Nat.ble 1 (List.length (Array.toList (Value.cells (at_ (elems v119) 1))))))
                                                                                                                          Prog.fail
                                                                                                                          (Nat.ble 1 (List.length (Array.toList (Value.cells (at_ (elems v119) 1))))))
                                                                                                                        Prog.fail
                                                                                                                        (((Nat.ble 2 (List.length (elems v119))) && Bool.true) && (hdOk 4 (elems v119))))
                                                                                                                      Prog.fail
                                                                                                                      (isLst v119)))
                                                                                                                    (loadT En 30 (blkOf v86) ((offOf v86) + 3)))
                                                                                                                  (Prog.ret (Value.bool Bool.false))
                                                                                                                  (decide ((intOf (List.headD (Array.toList (Value.cells (at_ (elems v118) 0))) (Value.tuple ⟨[]⟩))) = (98 : Int))))
                                                                                                                Prog.fail
                                                                                                                (okK (Kd.int IntKind.i64) (List.headD (Array.toList (Value.cells (at_ (elems v118) 0))) (Value.tuple ⟨[]⟩))))
                                                                                                              Prog.fail
                                                                                                              (Nat.ble 1 (List.length (Array.toList (Value.cells (at_ (elems v118) 0))))))
                                                                                                            Prog.fail
                                                                                                            (Nat.ble 1 (List.length (Array.toList (Value.cells (at_ (elems v118) 0))))))
                                                                                                          Prog.fail
                                                                                                          (((Nat.ble 1 (List.length (elems v118))) && Bool.true) && (hdOk 4 (elems v118))))
                                                                                                        Prog.fail
                                                                                                        (isLst v118)))
                                                                                                      (loadT En 30 (blkOf v86) ((offOf v86) + 3)))
                                                                                                    (boolOf v117))
                                                                                                  Prog.fail
                                                                                                  (okK Kd.bool v117)))
                                                                                              Prog.fail
                                                                                              (okKs ((Kd.int IntKind.i64) :: (Kd.lst :: (Kd.lst :: (Kd.lst :: [])))) (List.take 4 (Array.toList (Value.cells (at_ (elems v116) 1))))))
                                                                                            Prog.fail
                                                                                            (Nat.ble 4 (List.length (Array.toList (Value.cells (at_ (elems v116) 1))))))
                                                                                          Prog.fail
                                                                                          (((Nat.ble 2 (List.length (elems v116))) && Bool.true) && (hdOk 4 (elems v116))))
                                                                                        Prog.fail
                                                                                        (isLst v116)))
                                                                                      (loadT En 30 (blkOf v86) ((offOf v86) + 3)))
                                                                                    (callP (fun v120 =>
                                                                                      (cnd
                                                                                        (cnd
                                                                                          (cnd
                                                                                            (cnd
                                                                                              (cnd
                                                                                                (cnd
                                                                                                  (callP (fun v121 =>
                                                                                                    (cnd
                                                                                                      (cnd
                                                                                                        (cnd
                                                                                                          (cnd
                                                                                                            (cnd
                                                                                                              (Prog.ret (Value.bool (decide ((intOf (List.headD (Array.toList (Value.cells (at_ (elems v121) 1))) (Value.tuple ⟨[]⟩))) = (98 : Int)))))
                                                                                                              Prog.fail
                                                                                                              (okK (Kd.int IntKind.i64) (List.headD (Array.toList (Value.cells (at_ (elems v121) 1))) (Value.tuple ⟨[]⟩))))
                                                                                                            Prog.fail
                                                                                                            (Nat.ble 1 (List.length (Array.toList (Value.cells (at_ (elems v121) 1))))))
                                                                                                          Prog.fail
                                                                                                          (Nat.ble 1 (List.length (Array.toList (Value.cells (at_ (elems v121) 1))))))
                                                                                                        Prog.fail
                                                                                                        (((Nat.ble 2 (List.length (elems v121))) && Bool.true) && (hdOk 4 (elems v121))))
                                                                                                      Prog.fail
                                                                                                      (isLst v121)))
                                                                                                    (loadT En 30 (blkOf v86) ((offOf v86) + 3)))
                                                                                                  (Prog.ret (Value.bool Bool.false))
                                                                                                  (decide ((intOf (List.headD (Array.toList (Value.cells (at_ (elems v120) 0))) (Value.tuple ⟨[]⟩))) = (98 : Int))))
                                                                                                Prog.fail
                                                                                                (okK (Kd.int IntKind.i64) (List.headD (Array.toList (Value.cells (at_ (elems v120) 0))) (Value.tuple ⟨[]⟩))))
                                                                                              Prog.fail
                                                                                              (Nat.ble 1 (List.length (Array.toList (Value.cells (at_ (elems v120) 0))))))
                                                                                            Prog.fail
                                                                                            (Nat.ble 1 (List.length (Array.toList (Value.cells (at_ (elems v120) 0))))))
                                                                                          Prog.fail
                                                                                          (((Nat.ble 1 (List.length (elems v120))) && Bool.true) && (hdOk 4 (elems v120))))
                                                                                        Prog.fail
                                                                                        (isLst v120)))
                                                                                      (loadT En 30 (blkOf v86) ((offOf v86) + 3)))
                                                                                    (boolOf v115))
                                                                                  Prog.fail
                                                                                  (okK Kd.bool v115)))
                                                                              Prog.fail
                                                                              (okKs ((Kd.int IntKind.i64) :: (Kd.lst :: (Kd.lst :: (Kd.lst :: [])))) (List.take 4 (Array.toList (Value.cells (at_ (elems v114) 0))))))
                                                                            Prog.fail
                                                                            (Nat.ble 4 (List.length (Array.toList (Value.cells (at_ (elems v114) 0))))))
                                                                          Prog.fail
                                                                          (((Nat.ble 1 (List.length (elems v114))) && Bool.true) && (hdOk 4 (elems v114))))
                                                                        Prog.fail
                                                                        (isLst v114)))
                                                                      (loadT En 30 (blkOf v86) ((offOf v86) + 3)))
                                                                    (Prog.ret (Value.bool Bool.false))
                                                                    (decide ((Int.ofNat (List.length (elems v113))) = (2 : Int))))
                                                                  Prog.fail
                                                                  (isLst v113)))
                                                                (loadT En 30 (blkOf v86) ((offOf v86) + 3)))
                                                              (p71_18 f (blkOf v86) (offOf v86))
                                                              (decide ((intOf v112) = (99 : Int))))
                                                            Prog.fail
                                                            (okK (Kd.int IntKind.i64) v112)))
                                                          (loadT En 3 (blkOf v86) ((offOf v86) + 0)))
                                                        (decide ((intOf v109) = (98 : Int))))
                                                      Prog.fail
                                                      (okK (Kd.int IntKind.i64) v109)))
                                                    (loadT En 3 (blkOf v86) ((offOf v86) + 0)))
                                                  (decide ((intOf v106) = (0 : Int))))
                                                Prog.fail
                                                (okK (Kd.int IntKind.i64) v106)))
                                              (loadT En 3 (blkOf v86) ((offOf v86) + 0)))
                                            (decide ((intOf v93) = (100 : Int))))
                                          Prog.fail
                                          (okK (Kd.int IntKind.i64) v93)))
                                        (loadT En 3 (blkOf v86) ((offOf v86) + 0)))
                                      (decide ((intOf v92) = (1 : Int))))
                                    Prog.fail
                                    (okK (Kd.int IntKind.i64) v92)))
                                Prog.fail
                                (okK (Kd.int IntKind.i64) v91)))
                              (loadT En 3 (blkOf v86) ((offOf v86) + 0)))
                            (Bool.not (decide ((IntKind.wrap IntKind.i64 (Int.ofNat ((List.length (elems v89)) + (List.length (elems v90))))) = (1 : Int)))))
                          Prog.fail
                          (isLst v90)))
                        (loadT En 29 (blkOf v86) ((offOf v86) + 2)))
                      Prog.fail
                      (isLst v89)))
                    (loadT En 28 (blkOf v86) ((offOf v86) + 1)))
                  (callP (fun v122 =>
                    (cnd
                      (Prog.call (callF En (runP En f) 125 [(Value.int IntKind.i64 (intOf v122))]) fun v123 =>
                        (cnd
                          (cnd
                            (p71_5 f (blkOf v86) (offOf v86) (0 : Int))
                            (callP (fun v124 =>
                              (cnd
                                (cnd
                                  (Prog.seg (loadT En 29 (blkOf v86) ((offOf v86) + 2)) fun v125 s126 _ =>
                                    (cnd
                                      (Prog.seg (builtinA En Builtin.len (29 :: []) ((lstV (elems v125)) :: [])) fun v127 s128 _ =>
                                        (gdL 3 (writesOf s128) s128 [⟨1, writesOf s126, s126⟩]
                                          (cnd
                                            (cnd
                                              (Prog.ret (Value.bool Bool.false))
                                              (Prog.seg (loadT En 29 (blkOf v86) ((offOf v86) + 2)) fun v129 s130 _ =>
                                                (gdL 63 (writesOf s130) s130 [⟨2, writesOf s128, s128⟩, ⟨1, writesOf s126, s126⟩]
                                                  (cnd
                                                    (cnd
                                                      (cnd
                                                        (cnd
                                                          (cnd
                                                            (Prog.ret (Value.bool Bool.false))
                                                            (Prog.seg (loadT En 29 (blkOf v86) ((offOf v86) + 2)) fun v131 s132 _ =>
                                                              (gdL 16383 (writesOf s132) s132 [⟨6, writesOf s130, s130⟩, ⟨2, writesOf s128, s128⟩, ⟨1, writesOf s126, s126⟩]
                                                                (cnd
                                                                  (cnd
                                                                    (cnd
                                                                      (cnd
                                                                        (cnd
                                                                          (cnd
                                                                            (Prog.ret (Value.bool Bool.false))
                                                                            (Prog.seg (loadT En 29 (blkOf v86) ((offOf v86) + 2)) fun v133 s134 _ =>
                                                                              (gdL 4194303 (writesOf s134) s134 [⟨14, writesOf s132, s132⟩, ⟨6, writesOf s130, s130⟩, ⟨2, writesOf s128, s128⟩, ⟨1, writesOf s126, s126⟩]
                                                                                (cnd
                                                                                  (cnd
                                                                                    (cnd
                                                                                      (cnd
                                                                                        (Prog.seg (loadT En 29 (blkOf v86) ((offOf v86) + 2)) fun v135 s136 _ =>
                                                                                          (gdL 35651583 (writesOf s136) s136 [⟨22, writesOf s134, s134⟩, ⟨14, writesOf s132, s132⟩, ⟨6, writesOf s130, s130⟩, ⟨2, writesOf s128, s128⟩, ⟨1, writesOf s126, s126⟩]
                                                                                            (cnd
                                                                                              (cnd
                                                                                                (cnd
                                                                                                  (cnd
                                                                                                    (cnd
                                                                                                      (cnd
                                                                                                        (cnd
                                                                                                          (Prog.ret (Value.bool Bool.false))
                                                                                                          (p71_18 f (blkOf v86) (offOf v86))
                                                                                                          (Bool.not (decide ((Int.ofNat (byteAt (strOf (List.headD (Array.toList (Value.cells (at_ (elems v133) 0))) (Value.tuple ⟨[]⟩))) (Int.toNat (IntKind.wrap IntKind.i64 (Int.subNatNat (List.length (Array.toList (ByteArray.data (strOf (List.headD (Array.toList (Value.cells (at_ (elems v135) 0))) (Value.tuple ⟨[]⟩)))))) 1))))) = (125 : Int)))))
                                                                                                        Prog.fail
                                                                                                        (Nat.ble (Nat.succ (Int.toNat (IntKind.wrap IntKind.i64 (Int.subNatNat (List.length (Array.toList (ByteArray.data (strOf (List.headD (Array.toList (Value.cells (at_ (elems v135) 0))) (Value.tuple ⟨[]⟩)))))) 1)))) (List.length (Array.toList (ByteArray.data (strOf (List.headD (Array.toList (Value.cells (at_ (elems v133) 0))) (Value.tuple ⟨[]⟩))))))))
                                                                                                      Prog.fail
                                                                                                      (decide ((0 : Int) ≤ (IntKind.wrap IntKind.i64 (Int.subNatNat (List.length (Array.toList (ByteArray.data (strOf (List.headD (Array.toList (Value.cells (at_ (elems v135) 0))) (Value.tuple ⟨[]⟩)))))) 1)))))
                                                                                                    Prog.fail
                                                                                                    (okK Kd.str (List.headD (Array.toList (Value.cells (at_ (elems v135) 0))) (Value.tuple ⟨[]⟩))))
                                                                                                  Prog.fail
                                                                                                  (Nat.ble 1 (List.length (Array.toList (Value.cells (at_ (elems v135) 0))))))
                                                                                                Prog.fail
                                                                                                (((Nat.ble 1 (List.length (elems v135))) && Bool.true) && (hdOk 1 (elems v135))))
                                                                                              Prog.fail
                                                                                              (isLst v135))))
                                                                                        Prog.fail
                                                                                        (okK Kd.str (List.headD (Array.toList (Value.cells (at_ (elems v133) 0))) (Value.tuple ⟨[]⟩))))
                                                                                      Prog.fail
                                                                                      (Nat.ble 1 (List.length (Array.toList (Value.cells (at_ (elems v133) 0))))))
                                                                                    Prog.fail
                                                                                    (((Nat.ble 1 (List.length (elems v133))) && Bool.true) && (hdOk 1 (elems v133))))
                                                                                  Prog.fail
                                                                                  (isLst v133))))
                                                                            (Bool.not (decide ((Int.ofNat (byteAt (strOf (List.headD (Array.toList (Value.cells (at_ (elems v131) 0))) (Value.tuple ⟨[]⟩))) 0)) = (123 : Int)))))
                                                                          Prog.fail
                                                                          (Nat.ble 1 (List.length (Array.toList (ByteArray.data (strOf (List.headD (Array.toList (Value.cells (at_ (elems v131) 0))) (Value.tuple ⟨[]⟩))))))))
                                                                        Prog.fail
                                                                        (okK Kd.str (List.headD (Array.toList (Value.cells (at_ (elems v131) 0))) (Value.tuple ⟨[]⟩))))
                                                                      Prog.fail
                                                                      (Nat.ble 1 (List.length (Array.toList (Value.cells (at_ (elems v131) 0))))))
                                                                    Prog.fail
                                                                    (((Nat.ble 1 (List.length (elems v131))) && Bool.true) && (hdOk 1 (elems v131))))
                                                                  Prog.fail
                                                                  (isLst v131))))
                                                            (decide ((Int.ofNat (List.length (Array.toList (ByteArray.data (strOf (List.headD (Array.toList (Value.cells (at_ (elems v129) 0))) (Value.tuple ⟨[]⟩))))))) < (2 : Int))))
                                                          Prog.fail
                                                          (okK Kd.str (List.headD (Array.toList (Value.cells (at_ (elems v129) 0))) (Value.tuple ⟨[]⟩))))
                                                        Prog.fail
                                                        (Nat.ble 1 (List.length (Array.toList (Value.cells (at_ (elems v129) 0))))))
                                                      Prog.fail
                                                      (((Nat.ble 1 (List.length (elems v129))) && Bool.true) && (hdOk 1 (elems v129))))
                                                    Prog.fail
                                                    (isLst v129))))
                                              (Bool.not (decide ((intOf v127) = (1 : Int)))))
                                            Prog.fail
                                            (okK (Kd.int IntKind.i64) v127))))
                                      Prog.fail
                                      (isLst v125)))
                                  (callP (fun v137 =>
                                    (cnd
                                      (cnd
                                        (callP (fun v138 =>
                                          (cnd
                                            (Prog.call (callF En (runP En f) 126 [(Value.agg ⟨((Value.int IntKind.i64 (intOf (at_ (aggOf v138) 0))) :: ((lstV (elems (at_ (aggOf v138) 1))) :: ((lstV (elems (at_ (aggOf v138) 2))) :: ((lstV (elems (at_ (aggOf v138) 3))) :: []))))⟩)]) fun v139 =>
                                              (cnd
                                                (Prog.ret (Value.bool (boolOf v139)))
                                                Prog.fail
                                                (okK Kd.bool v139)))
                                            Prog.fail
                                            ((isAggV v138) && (okKs ((Kd.int IntKind.i64) :: (Kd.lst :: (Kd.lst :: (Kd.lst :: [])))) (aggOf v138)))))
                                          (loadT En 32 (blkOf v86) (offOf v86)))
                                        (callP (fun v140 =>
                                          (cnd
                                            (cnd
                                              (callP (fun v141 =>
                                                (cnd
                                                  (Prog.call (callF En (runP En f) 127 [(Value.agg ⟨((Value.int IntKind.i64 (intOf (at_ (aggOf v141) 0))) :: ((lstV (elems (at_ (aggOf v141) 1))) :: ((lstV (elems (at_ (aggOf v141) 2))) :: ((lstV (elems (at_ (aggOf v141) 3))) :: []))))⟩)]) fun v142 =>
                                                    (cnd
                                                      (Prog.ret (Value.bool (boolOf v142)))
                                                      Prog.fail
                                                      (okK Kd.bool v142)))
                                                  Prog.fail
                                                  ((isAggV v141) && (okKs ((Kd.int IntKind.i64) :: (Kd.lst :: (Kd.lst :: (Kd.lst :: [])))) (aggOf v141)))))
                                                (loadT En 32 (blkOf v86) (offOf v86)))
                                              (callP (fun v143 =>
                                                (cnd
                                                  (cnd
                                                    (callP (fun v144 =>
                                                      (cnd
                                                        (cnd
                                                          (callP (fun v145 =>
                                                            (cnd
                                                              (cnd
                                                                (cnd
                                                                  (cnd
                                                                    (Prog.call (callF En (runP En f) 128 [(Value.agg ⟨((Value.int IntKind.i64 (intOf (at_ (List.take 4 (Array.toList (Value.cells (at_ (elems v145) 0)))) 0))) :: ((lstV (elems (at_ (List.take 4 (Array.toList (Value.cells (at_ (elems v145) 0)))) 1))) :: ((lstV (elems (at_ (List.take 4 (Array.toList (Value.cells (at_ (elems v145) 0)))) 2))) :: ((lstV (elems (at_ (List.take 4 (Array.toList (Value.cells (at_ (elems v145) 0)))) 3))) :: []))))⟩)]) fun v146 =>
                                                                      (cnd
                                                                        (cnd
                                                                          (callP (fun v147 =>
                                                                            (cnd
                                                                              (cnd
                                                                                (cnd
                                                                                  (cnd
                                                                                    (Prog.call (callF En (runP En f) 128 [(Value.agg ⟨((Value.int IntKind.i64 (intOf (at_ (List.take 4 (Array.toList (Value.cells (at_ (elems v147) 1)))) 0))) :: ((lstV (elems (at_ (List.take 4 (Array.toList (Value.cells (at_ (elems v147) 1)))) 1))) :: ((lstV (elems (at_ (List.take 4 (Array.toList (Value.cells (at_ (elems v147) 1)))) 2))) :: ((lstV (elems (at_ (List.take 4 (Array.toList (Value.cells (at_ (elems v147) 1)))) 3))) :: []))))⟩)]) fun v148 =>
                                                                                      (cnd
                                                                                        (cnd
                                                                                          (Prog.ret (Value.bool Bool.true))
                                                                                          (callP (fun v149 =>
                                                                                            (cnd
                                                                                              (cnd
                                                                                                (cnd
                                                                                                  (cnd
                                                                                                    (cnd
                                                                                                      (cnd
                                                                                                        (callP (fun v150 =>
                                                                                                          (cnd
                                                                                                            (cnd
                                                                                                              (cnd
                                                                                                                (cnd
                                                                                                                  (cnd
                                                                                                                    (Prog.ret (Value.bool (decide ((intOf (List.headD (Array.toList (Value.cells (at_ (elems v150) 1))) (Value.tuple ⟨[]⟩))) = (98 : Int)))))
                                                                                                                    Prog.fail
                                                                                                                    (okK (Kd.int IntKind.i64) (List.headD (Array.toList (Value.cells (at_ (elems v150) 1))) (Value.tuple ⟨[]⟩))))
                                                                                                                  Prog.fail
                                                                                                                  (Nat.ble 1 (List.length (Array.toList (Value.cells (at_ (elems v150) 1))))))
                                                                                                                Prog.fail
                                                                                                                (Nat.ble 1 (List.length (Array.toList (Value.cells (at_ (elems v150) 1))))))
                                                                                                              Prog.fail
                                                                                                              (((Nat.ble 2 (List.length (elems v150))) && Bool.true) && (hdOk 4 (elems v150))))
                                                                                                            Prog.fail
                                                                                                            (isLst v150)))
                                                                                                          (loadT En 30 (blkOf v86) ((offOf v86) + 3)))
                                                                                                        (Prog.ret (Value.bool Bool.false))
                                                                                                        (decide ((intOf (List.headD (Array.toList (Value.cells (at_ (elems v149) 0))) (Value.tuple ⟨[]⟩))) = (98 : Int))))
                                                                                                      Prog.fail
                                                                                                      (okK (Kd.int IntKind.i64) (List.headD (Array.toList (Value.cells (at_ (elems v149) 0))) (Value.tuple ⟨[]⟩))))
                                                                                                    Prog.fail
                                                                                                    (Nat.ble 1 (List.length (Array.toList (Value.cells (at_ (elems v149) 0))))))
                                                                                                  Prog.fail
                                                                                                  (Nat.ble 1 (List.length (Array.toList (Value.cells (at_ (elems v149) 0))))))
                                                                                                Prog.fail
                                                                                                (((Nat.ble 1 (List.length (elems v149))) && Bool.true) && (hdOk 4 (elems v149))))
                                                                                              Prog.fail
                                                                                              (isLst v149)))
                                                                                            (loadT En 30 (blkOf v86) ((offOf v86) + 3)))
                                                                                          (boolOf v148))
                                                                                        Prog.fail
                                                                                        (okK Kd.bool v148)))
                                                                                    Prog.fail
                                                                                    (okKs ((Kd.int IntKind.i64) :: (Kd.lst :: (Kd.lst :: (Kd.lst :: [])))) (List.take 4 (Array.toList (Value.cells (at_ (elems v147) 1))))))
                                                                                  Prog.fail
                                                                                  (Nat.ble 4 (List.length (Array.toList (Value.cells (at_ (elems v147) 1))))))
                                                                                Prog.fail
                                                                                (((Nat.ble 2 (List.length (elems v147))) && Bool.true) && (hdOk 4 (elems v147))))
                                                                              Prog.fail
                                                                              (isLst v147)))
                                                                            (loadT En 30 (blkOf v86) ((offOf v86) + 3)))
                                                                          (callP (fun v151 =>
                                                                            (cnd
                                                                              (cnd
                                                                                (cnd
                                                                                  (cnd
                                                                                    (cnd
                                                                                      (cnd
                                                                                        (callP (fun v152 =>
                                                                                          (cnd
                                                                                            (cnd
                                                                                              (cnd
                                                                                                (cnd
                                                                                                  (cnd
                                                                                                    (Prog.ret (Value.bool (decide ((intOf (List.headD (Array.toList (Value.cells (at_ (elems v152) 1))) (Value.tuple ⟨[]⟩))) = (98 : Int)))))
                                                                                                    Prog.fail
                                                                                                    (okK (Kd.int IntKind.i64) (List.headD (Array.toList (Value.cells (at_ (elems v152) 1))) (Value.tuple ⟨[]⟩))))
                                                                                                  Prog.fail
                                                                                                  (Nat.ble 1 (List.length (Array.toList (Value.cells (at_ (elems v152) 1))))))
                                                                                                Prog.fail
                                                                                                (Nat.ble 1 (List.length (Array.toList (Value.cells (at_ (elems v152) 1))))))
                                                                                              Prog.fail
                                                                                              (((Nat.ble 2 (List.length (elems v152))) && Bool.true) && (hdOk 4 (elems v152))))
                                                                                            Prog.fail
                                                                                            (isLst v152)))
                                                                                          (loadT En 30 (blkOf v86) ((offOf v86) + 3)))
                                                                                        (Prog.ret (Value.bool Bool.false))
                                                                                        (decide ((intOf (List.headD (Array.toList (Value.cells (at_ (elems v151) 0))) (Value.tuple ⟨[]⟩))) = (98 : Int))))
                                                                                      Prog.fail
                                                                                      (okK (Kd.int IntKind.i64) (List.headD (Array.toList (Value.cells (at_ (elems v151) 0))) (Value.tuple ⟨[]⟩))))
                                                                                    Prog.fail
                                                                                    (Nat.ble 1 (List.length (Array.toList (Value.cells (at_ (elems v151) 0))))))
                                                                                  Prog.fail
                                                                                  (Nat.ble 1 (List.length (Array.toList (Value.cells (at_ (elems v151) 0))))))
                                                                                Prog.fail
                                                                                (((Nat.ble 1 (List.length (elems v151))) && Bool.true) && (hdOk 4 (elems v151))))
                                                                              Prog.fail
                                                                              (isLst v151)))
                                                                            (loadT En 30 (blkOf v86) ((offOf v86) + 3)))
                                                                          (boolOf v146))
                                                                        Prog.fail
                                                                        (okK Kd.bool v146)))
                                                                    Prog.fail
                                                                    (okKs ((Kd.int IntKind.i64) :: (Kd.lst :: (Kd.lst :: (Kd.lst :: [])))) (List.take 4 (Array.toList (Value.cells (at_ (elems v145) 0))))))
                                                                  Prog.fail
                                                                  (Nat.ble 4 (List.length (Array.toList (Value.cells (at_ (elems v145) 0))))))
                                                                Prog.fail
                                                                (((Nat.ble 1 (List.length (elems v145))) && Bool.true) && (hdOk 4 (elems v145))))
                                                              Prog.fail
                                                              (isLst v145)))
                                                            (loadT En 30 (blkOf v86) ((offOf v86) + 3)))
                                                          (Prog.ret (Value.bool Bool.false))
                                                          (decide ((Int.ofNat (List.length (elems v144))) = (2 : Int))))
                                                        Prog.fail
                                                        (isLst v144)))
                                                      (loadT En 30 (blkOf v86) ((offOf v86) + 3)))
                                                    (p71_18 f (blkOf v86) (offOf v86))
                                                    (decide ((intOf v143) = (99 : Int))))
                                                  Prog.fail
                                                  (okK (Kd.int IntKind.i64) v143)))
                                                (loadT En 3 (blkOf v86) ((offOf v86) + 0)))
                                              (decide ((intOf v140) = (98 : Int))))
                                            Prog.fail
                                            (okK (Kd.int IntKind.i64) v140)))
                                          (loadT En 3 (blkOf v86) ((offOf v86) + 0)))
                                        (decide ((intOf v137) = (0 : Int))))
                                      Prog.fail
                                      (okK (Kd.int IntKind.i64) v137)))
                                    (loadT En 3 (blkOf v86) ((offOf v86) + 0)))
                                  (decide ((intOf v124) = (100 : Int))))
                                Prog.fail
                                (okK (Kd.int IntKind.i64) v124)))
                              (loadT En 3 (blkOf v86) ((offOf v86) + 0)))
                            (decide ((intOf v123) = (1 : Int))))
                          Prog.fail
                          (okK (Kd.int IntKind.i64) v123)))
                      Prog.fail
                      (okK (Kd.int IntKind.i64) v122)))
                    (loadT En 3 (blkOf v86) ((offOf v86) + 0)))
                  (boolOf v88))
                Prog.fail
                (okK Kd.bool v88)))
            Prog.fail
            ((isAggV v87) && (okKs ((Kd.int IntKind.i64) :: (Kd.lst :: (Kd.lst :: (Kd.lst :: [])))) (aggOf v87)))))
          (loadT En 32 (blkOf v86) (offOf v86)))
        Prog.fail
        (isPt v86)))
      (Prog.newH (Hdr.mk 4 32 Bool.false Bool.true Bool.true 0 Bool.false Bool.false []) ((Value.int IntKind.i64 x0_0) :: ((lstV x0_1) :: ((lstV x0_2) :: ((lstV x0_3) :: [])))) (fun z85 => (Prog.ret (itP z85)))))) := by kernel_rfl
end Go.Proofs.YtmjbmbmnnephjaaGreatDoor
/- What comes of the points of a function: printed by the tool. -/
namespace Go.Proofs.YtmjbmbmnnephjaaGreatDoor
open Go Go.Ev Go.Proofs
set_option maxRecDepth 8000
set_option linter.unusedVariables false
noncomputable def p112_1 (f : Nat) (x0 : ByteArray) (x1 : Int) : Prog := runP En f 112 (tmL 23 [(0, (Value.string x0)), (1, (Value.int IntKind.u8 x1))]) [.code (cL (cL (cI (cI (cL (cR (cB 112))))))), .code (cR (cL (cI (cI (cL (cR (cB 112))))))), .code (cR (cI (cI (cL (cR (cB 112)))))), .inLoop (cI (cI (cL (cR (cB 112))))), .inBlock 0, .code (cR (cR (cB 112)))] [] none
theorem p112_1_eq (f : Nat) (x0 : ByteArray) (x1 : Int) : p112_1 (f + 1) x0 x1 =
  (cnd
    (cnd
      (cnd
        (cnd
          (cnd
            (cnd
              (p112_1 f (mkStr (List.take ((Int.toNat (IntKind.wrap IntKind.i64 (Int.subNatNat (List.length (Array.toList (ByteArray.data x0))) 1))) - 0) (Array.toList (ByteArray.data x0)))) x1)
              Prog.fail
              ((Nat.ble 0 (Int.toNat (IntKind.wrap IntKind.i64 (Int.subNatNat (List.length (Array.toList (ByteArray.data x0))) 1)))) && (Nat.ble (Int.toNat (IntKind.wrap IntKind.i64 (Int.subNatNat (List.length (Array.toList (ByteArray.data x0))) 1))) (List.length (Array.toList (ByteArray.data x0))))))
            Prog.fail
            (decide ((0 : Int) ≤ (IntKind.wrap IntKind.i64 (Int.subNatNat (List.length (Array.toList (ByteArray.data x0))) 1)))))
          (Prog.ret (Value.string x0))
          (decide ((Int.ofNat (byteAt x0 (Int.toNat (IntKind.wrap IntKind.i64 (Int.subNatNat (List.length (Array.toList (ByteArray.data x0))) 1))))) = x1)))
        Prog.fail
        (Nat.ble (Nat.succ (Int.toNat (IntKind.wrap IntKind.i64 (Int.subNatNat (List.length (Array.toList (ByteArray.data x0))) 1)))) (List.length (Array.toList (ByteArray.data x0)))))
      Prog.fail
      (decide ((0 : Int) ≤ (IntKind.wrap IntKind.i64 (Int.subNatNat (List.length (Array.toList (ByteArray.data x0))) 1)))))
    (Prog.ret (Value.string x0))
    (decide ((Int.ofNat (List.length (Array.toList (ByteArray.data x0)))) > (0 : Int)))) := by kernel_rfl
theorem f112_eq (f : Nat) (x0 : ByteArray) (x1 : Int) : callF En (runP En (f + 1)) 112 [(Value.string x0), (Value.int IntKind.u8 x1)] =
  (p112_1 f x0 x1) := by kernel_rfl
end Go.Proofs.YtmjbmbmnnephjaaGreatDoor
/- What comes of the points of a function: printed by the tool. -/
namespace Go.Proofs.YtmjbmbmnnephjaaGreatDoor
open Go Go.Ev Go.Proofs
set_option maxRecDepth 8000
set_option linter.unusedVariables false
noncomputable def p113_2 (f : Nat) (x0 : ByteArray) (x2 : Nat) (x2o : Nat) (x4 : Int) : Prog := runP En f 113 (tmL 21 [(0, (Value.string x0)), (2, (Value.pointer (Option.some (Addr.mk x2 x2o Option.none)))), (4, (Value.int IntKind.i64 x4))]) [.code (cL (cL (cI (cI (cR (cL (cR (cB 113)))))))), .code (cR (cL (cI (cI (cR (cL (cR (cB 113)))))))), .code (cR (cI (cI (cR (cL (cR (cB 113))))))), .inLoop (cI (cI (cR (cL (cR (cB 113)))))), .inBlock 0, .code (cR (cR (cB 113)))] [] none
theorem p113_2_eq (f : Nat) (x0 : ByteArray) (x2 : Nat) (x2o : Nat) (x4 : Int) : p113_2 (f + 1) x0 x2 x2o x4 =
  (cnd
    (cnd
      (cnd
        (cnd
          (callP (fun v3 =>
            (callP (fun v4 =>
              (Prog.call (loadT En 116 x2 x2o) fun v5 =>
                (Prog.ret (Value.tuple ⟨(v5 :: ((Value.bool Bool.false) :: []))⟩))))
              (storeT En 116 x2 x2o v3)))
            (loadT En 116 x2 x2o))
          (cnd
            (callP (fun v6 =>
              (p113_2 f x0 x2 x2o (IntKind.wrap IntKind.i64 (x4 + (1 : Int)))))
              (storeT En 4 x2 (x2o + ((byteAt x0 (Int.toNat x4)) * 1)) (Value.bool Bool.true)))
            Prog.fail
            ((Nat.ble (Nat.succ (byteAt x0 (Int.toNat x4))) 256) && Bool.true))
          (decide ((Int.ofNat (byteAt x0 (Int.toNat x4))) ≥ (128 : Int))))
        Prog.fail
        (Nat.ble (Nat.succ (Int.toNat x4)) (List.length (Array.toList (ByteArray.data x0)))))
      Prog.fail
      (decide ((0 : Int) ≤ x4)))
    (callP (fun v7 =>
      (callP (fun v8 =>
        (Prog.call (loadT En 116 x2 x2o) fun v9 =>
          (Prog.ret (Value.tuple ⟨(v9 :: ((Value.bool Bool.true) :: []))⟩))))
        (storeT En 116 x2 x2o v7)))
      (loadT En 116 x2 x2o))
    (decide (x4 < (Int.ofNat (List.length (Array.toList (ByteArray.data x0))))))) := by kernel_rfl
theorem f113_eq (f : Nat) (x0 : ByteArray) : callF En (runP En (f + 1)) 113 [(Value.string x0)] =
  (callP (fun v11 =>
    (cnd
      (p113_2 f x0 (blkOf v11) (offOf v11) (0 : Int))
      Prog.fail
      (isPt v11)))
    (Prog.newH (Hdr.mk 256 116 Bool.false Bool.true Bool.true 0 Bool.false Bool.false []) ((Value.bool Bool.false) :: ((Value.bool Bool.false) :: ((Value.bool Bool.false) :: ((Value.bool Bool.false) :: ((Value.bool Bool.false) :: ((Value.bool Bool.false) :: ((Value.bool Bool.false) :: ((Value.bool Bool.false) :: ((Value.bool Bool.false) :: ((Value.bool Bool.false) :: ((Value.bool Bool.false) :: ((Value.bool Bool.false) :: ((Value.bool Bool.false) :: ((Value.bool Bool.false) :: ((Value.bool Bool.false) :: ((Value.bool Bool.false) :: ((Value.bool Bool.false) :: ((Value.bool Bool.false) :: ((Value.bool Bool.false) :: ((Value.bool Bool.false) :: ((Value.bool Bool.false) :: ((Value.bool Bool.false) :: ((Value.bool Bool.false) :: ((Value.bool Bool.false) :: ((Value.bool Bool.false) :: ((Value.bool Bool.false) :: ((Value.bool Bool.false) :: ((Value.bool Bool.false) :: ((Value.bool Bool.false) :: ((Value.bool Bool.false) :: ((Value.bool Bool.false) :: ((Value.bool Bool.false) :: ((Value.bool Bool.false) :: ((Value.bool Bool.false) :: ((Value.bool Bool.false) :: ((Value.bool Bool.false) :: ((Value.bool Bool.false) :: ((Value.bool Bool.false) :: ((Value.bool Bool.false) :: ((Value.bool Bool.false) :: ((Value.bool Bool.false) :: ((Value.bool Bool.false) :: ((Value.bool Bool.false) :: ((Value.bool Bool.false) :: ((Value.bool Bool.false) :: ((Value.bool Bool.false) :: ((Value.bool Bool.false) :: ((Value.bool Bool.false) :: ((Value.bool Bool.false) :: ((Value.bool Bool.false) :: ((Value.bool Bool.false) :: ((Value.bool Bool.false) :: ((Value.bool Bool.false) :: ((Value.bool Bool.false) :: ((Value.bool Bool.false) :: ((Value.bool Bool.false) :: ((Value.bool Bool.false) :: ((Value.bool Bool.false) :: ((Value.bool Bool.false) :: ((Value.bool Bool.false) :: ((Value.bool Bool.false) :: ((Value.bool Bool.false) :: ((Value.bool Bool.false) :: ((Value.bool Bool.false) :: ((Value.bool Bool.false) :: ((Value.bool Bool.false) :: ((Value.bool Bool.false) :: ((Value.bool Bool.false) :: ((Value.bool Bool.false) :: ((Value.bool Bool.false) :: ((Value.bool Bool.false) :: ((Value.bool Bool.false) :: ((Value.bool Bool.false) :: ((Value.bool Bool.false) :: ((Value.bool Bool.false) :: ((Value.bool Bool.false) :: ((Value.bool Bool.false) :: ((Value.bool Bool.false) :: ((Value.bool Bool.false) :: ((Value.bool Bool.false) :: ((Value.bool Bool.false) :: ((Value.bool Bool.false) :: ((Value.bool Bool.false) :: ((Value.bool Bool.false) :: ((Value.bool Bool.false) :: ((Value.bool Bool.false) :: ((Value.bool Bool.false) :: ((Value.bool Bool.false) :: ((Value.bool Bool.false) :: ((Value.bool Bool.false) :: ((Value.bool Bool.false) :: ((Value.bool Bool.false) :: ((Value.bool Bool.false) :: ((Value.bool Bool.false) :: ((Value.bool Bool.false) :: ((Value.bool Bool.false) :: ((Value.bool Bool.false) :: ((Value.bool Bool.false) :: ((Value.bool Bool.false) :: ((Value.bool Bool.false) :: ((Value.bool Bool.false) :: ((Value.bool Bool.false) :: ((Value.bool Bool.false) :: ((Value.bool Bool.false) :: ((Value.bool Bool.false) :: ((Value.bool Bool.false) :: ((Value.bool Bool.false) :: ((Value.bool Bool.false) :: ((Value.bool Bool.false) :: ((Value.bool Bool.false) :: ((Value.bool Bool.false) :: ((Value.bool Bool.false) :: ((Value.bool Bool.false) :: ((Value.bool Bool.false) :: ((Value.bool Bool.false) :: ((Value.bool Bool.false) :: ((Value.bool Bool.false) :: ((Value.bool Bool.false) :: ((Value.bool Bool.false) :: ((Value.bool Bool.false) :: ((Value.bool Bool.false) :: ((Value.bool Bool.false) :: ((Value.bool Bool.false) :: ((Value.bool Bool.false) :: ((Value.bool Bool.false) :: ((Value.bool Bool.false) :: ((Value.bool Bool.false) :: ((Value.bool Bool.false) :: ((Value.bool Bool.false) :: ((Value.bool Bool.false) :: ((Value.bool Bool.false) :: ((Value.bool Bool.false) :: ((Value.bool Bool.false) :: ((Value.bool Bool.false) :: ((Value.bool Bool.false) :: ((Value.bool Bool.false) :: ((Value.bool Bool.false) :: ((Value.bool Bool.false) :: ((Value.bool Bool.false) :: ((Value.bool Bool.false) :: ((Value.bool Bool.false) :: ((Value.bool Bool.false) :: ((Value.bool Bool.false) :: ((Value.bool Bool.false) :: ((Value.bool Bool.false) :: ((Value.bool Bool.false) :: ((Value.bool Bool.false) :: ((Value.bool Bool.false) :: ((Value.bool Bool.false) :: ((Value.bool Bool.false) :: ((Value.bool Bool.false) :: ((Value.bool Bool.false) :: ((Value.bool Bool.false) :: ((Value.bool Bool.false) :: ((Value.bool Bool.false) :: ((Value.bool Bool.false) :: ((Value.bool Bool.false) :: ((Value.bool Bool.false) :: ((Value.bool Bool.false) :: ((Value.bool Bool.false) :: ((Value.bool Bool.false) :: ((Value.bool Bool.false) :: ((Value.bool Bool.false) :: ((Value.bool Bool.false) :: ((Value.bool Bool.false) :: ((Value.bool Bool.false) :: ((Value.bool Bool.false) :: ((Value.bool Bool.false) :: ((Value.bool Bool.false) :: ((Value.bool Bool.false) :: ((Value.bool Bool.false) :: ((Value.bool Bool.false) :: ((Value.bool Bool.false) :: ((Value.bool Bool.false) :: ((Value.bool Bool.false) :: ((Value.bool Bool.false) :: ((Value.bool Bool.false) :: ((Value.bool Bool.false) :: ((Value.bool Bool.false) :: ((Value.bool Bool.false) :: ((Value.bool Bool.false) :: ((Value.bool Bool.false) :: ((Value.bool Bool.false) :: ((Value.bool Bool.false) :: ((Value.bool Bool.false) :: ((Value.bool Bool.false) :: ((Value.bool Bool.false) :: ((Value.bool Bool.false) :: ((Value.bool Bool.false) :: ((Value.bool Bool.false) :: ((Value.bool Bool.false) :: ((Value.bool Bool.false) :: ((Value.bool Bool.false) :: ((Value.bool Bool.false) :: ((Value.bool Bool.false) :: ((Value.bool Bool.false) :: ((Value.bool Bool.false) :: ((Value.bool Bool.false) :: ((Value.bool Bool.false) :: ((Value.bool Bool.false) :: ((Value.bool Bool.false) :: ((Value.bool Bool.false) :: ((Value.bool Bool.false) :: ((Value.bool Bool.false) :: ((Value.bool Bool.false) :: ((Value.bool Bool.false) :: ((Value.bool Bool.false) :: ((Value.bool Bool.false) :: ((Value.bool Bool.false) :: ((Value.bool Bool.false) :: ((Value.bool Bool.false) :: ((Value.bool Bool.false) :: ((Value.bool Bool.false) :: ((Value.bool Bool.false) :: ((Value.bool Bool.false) :: ((Value.bool Bool.false) :: ((Value.bool Bool.false) :: ((Value.bool Bool.false) :: ((Value.bool Bool.false) :: ((Value.bool Bool.false) :: ((Value.bool Bool.false) :: ((Value.bool Bool.false) :: ((Value.bool Bool.false) :: ((Value.bool Bool.false) :: ((Value.bool Bool.false) :: ((Value.bool Bool.false) :: ((Value.bool Bool.false) :: ((Value.bool Bool.false) :: ((Value.bool Bool.false) :: ((Value.bool Bool.false) :: ((Value.bool Bool.false) :: ((Value.bool Bool.false) :: ((Value.bool Bool.false) :: ((Value.bool Bool.false) :: ((Value.bool Bool.false) :: ((Value.bool Bool.false) :: ((Value.bool Bool.false) :: ((Value.bool Bool.false) :: ((Value.bool Bool.false) :: ((Value.bool Bool.false) :: ((Value.bool Bool.false) :: ((Value.bool Bool.false) :: ((Value.bool Bool.false) :: ((Value.bool Bool.false) :: ((Value.bool Bool.false) :: ((Value.bool Bool.false) :: ((Value.bool Bool.false) :: ((Value.bool Bool.false) :: ((Value.bool Bool.false) :: ((Value.bool Bool.false) :: ((Value.bool Bool.false) :: ((Value.bool Bool.false) :: ((Value.bool Bool.false) :: ((Value.bool Bool.false) :: ((Value.bool Bool.false) :: ((Value.bool Bool.false) :: [])))))))))))))))))))))))))))))))))))))))))))))))))))))))))))))))))))))))))))))))))))))))))))))))))))))))))))))))))))))))))))))))))))))))))))))))))))))))))))))))))))))))))))))))))))))))))))))))))))))))))))))))))))))))))))))))))))))))))))))))))))))))))))))))) (fun z10 => (Prog.ret (itP z10))))) := by kernel_rfl
end Go.Proofs.YtmjbmbmnnephjaaGreatDoor
/- What comes of the points of a function: printed by the tool. -/
namespace Go.Proofs.YtmjbmbmnnephjaaGreatDoor
open Go Go.Ev Go.Proofs
set_option maxRecDepth 8000
set_option linter.unusedVariables false
noncomputable def p114_1 (f : Nat) (x0 : ByteArray) (x1 : Nat) : Prog := runP En f 114 (tmL 22 [(0, (Value.string x0)), (1, (Value.pointer (Option.some (Addr.mk x1 0 Option.none))))]) [.code (cL (cL (cI (cI (cL (cR (cB 114))))))), .code (cR (cL (cI (cI (cL (cR (cB 114))))))), .code (cR (cI (cI (cL (cR (cB 114)))))), .inLoop (cI (cI (cL (cR (cB 114))))), .inBlock 0, .code (cR (cR (cB 114)))] [] none
noncomputable def p114_4 (f : Nat) (x0 : ByteArray) : Prog := runP En f 114 (tmL 22 [(0, (Value.string x0))]) [.code (cL (cR (cR (cB 114)))), .code (cR (cR (cR (cB 114))))] [] none
theorem p114_1_eq (f : Nat) (x0 : ByteArray) (x1 : Nat) : p114_1 (f + 1) x0 x1 =
  (cnd
    (cnd
      (cnd
        (Prog.call (callF En (runP En f) 171 [(Value.pointer (Option.some (Addr.mk x1 0 Option.none))), (Value.int IntKind.u8 (Int.ofNat (byteAt x0 (Int.toNat (IntKind.wrap IntKind.i64 (Int.subNatNat (List.length (Array.toList (ByteArray.data x0))) 1))))))]) fun v2 =>
          (cnd
            (cnd
              (p114_4 f x0)
              (cnd
                (cnd
                  (p114_1 f (mkStr (List.take ((Int.toNat (IntKind.wrap IntKind.i64 (Int.subNatNat (List.length (Array.toList (ByteArray.data x0))) 1))) - 0) (Array.toList (ByteArray.data x0)))) x1)
                  Prog.fail
                  ((Nat.ble 0 (Int.toNat (IntKind.wrap IntKind.i64 (Int.subNatNat (List.length (Array.toList (ByteArray.data x0))) 1)))) && (Nat.ble (Int.toNat (IntKind.wrap IntKind.i64 (Int.subNatNat (List.length (Array.toList (ByteArray.data x0))) 1))) (List.length (Array.toList (ByteArray.data x0))))))
                Prog.fail
                (decide ((0 : Int) ≤ (IntKind.wrap IntKind.i64 (Int.subNatNat (List.length (Array.toList (ByteArray.data x0))) 1)))))
              (Bool.not (boolOf v2)))
            Prog.fail
            (okK Kd.bool v2)))
        Prog.fail
        (Nat.ble (Nat.succ (Int.toNat (IntKind.wrap IntKind.i64 (Int.subNatNat (List.length (Array.toList (ByteArray.data x0))) 1)))) (List.length (Array.toList (ByteArray.data x0)))))
      Prog.fail
      (decide ((0 : Int) ≤ (IntKind.wrap IntKind.i64 (Int.subNatNat (List.length (Array.toList (ByteArray.data x0))) 1)))))
    (p114_4 f x0)
    (decide ((Int.ofNat (List.length (Array.toList (ByteArray.data x0)))) > (0 : Int)))) := by kernel_rfl
theorem p114_4_eq (f : Nat) (x0 : ByteArray) : p114_4 (f + 1) x0 =
  (Prog.ret (Value.string x0)) := by kernel_rfl
theorem f114_eq (f : Nat) (x0 : ByteArray) (x1 : Nat) : callF En (runP En (f + 1)) 114 [(Value.string x0), (Value.pointer (Option.some (Addr.mk x1 0 Option.none)))] =
  (p114_1 f x0 x1) := by kernel_rfl
end Go.Proofs.YtmjbmbmnnephjaaGreatDoor
/- What comes of the points of a function: printed by the tool. -/
namespace Go.Proofs.YtmjbmbmnnephjaaGreatDoor
open Go Go.Ev Go.Proofs
set_option maxRecDepth 8000
set_option linter.unusedVariables false
theorem f116_eq (f : Nat) (x0 : Int) : callF En (runP En (f + 1)) 116 [(Value.int IntKind.u8 x0)] =
  (Prog.call (callF En (runP En f) 43 [(Value.int IntKind.u8 x0)]) fun v2 =>
    (cnd
      (cnd
        (Prog.ret (Value.bool Bool.true))
        (Prog.ret (Value.bool (decide (x0 = (46 : Int)))))
        (boolOf v2))
      Prog.fail
      (okK Kd.bool v2))) := by kernel_rfl
end Go.Proofs.YtmjbmbmnnephjaaGreatDoor
