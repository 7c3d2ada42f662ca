/- What comes of the points of a function: printed by the tool. -/
import Derived.Test.YtmjbmbmnnephjaaGreatDoorLxKB
namespace Go.Proofs.YtmjbmbmnnephjaaGreatDoor
open Go Go.Ev Go.Proofs
set_option maxRecDepth 8000
set_option linter.unusedVariables false
theorem f117_eq (f : Nat) (x0 : ByteArray) (x1 : ByteArray) : callF En (runP En (f + 1)) 117 [(Value.string x0), (Value.string x1)] =
  (Prog.call (callF En (runP En f) 174 [(Value.string x0), (Value.string x1)]) fun v2 =>
    (cnd
      (Prog.ret (Value.tuple ⟨((Value.string (strOf (at_ (tupOf v2) 0))) :: ((Value.bool (boolOf (at_ (tupOf v2) 1))) :: []))⟩))
      Prog.fail
      ((isTupV v2) && (okNs ((Nm.one Kd.str) :: ((Nm.one Kd.bool) :: [])) (tupOf v2))))) := by kernel_rfl
end Go.Proofs.YtmjbmbmnnephjaaGreatDoor
/- What comes of the points of a function: printed by the tool. -/
namespace Go.Proofs.YtmjbmbmnnephjaaGreatDoor
open Go Go.Ev Go.Proofs
set_option maxRecDepth 8000
set_option linter.unusedVariables false
theorem f118_eq (f : Nat) (x0 : ByteArray) (x1 : ByteArray) : callF En (runP En (f + 1)) 118 [(Value.string x0), (Value.string x1)] =
  (cnd
    (Prog.ret (Value.string x0))
    (cnd
      (Prog.ret (Value.string x0))
      (cnd
        (cnd
          (cnd
            (cnd
              (Prog.seg (callF En (runP En f) 112 [(Value.string x0), (Value.int IntKind.u8 (Int.ofNat (byteAt x1 0)))]) fun v21 s22 _ =>
                (cnd
                  (cnd
                    (Prog.seg (callF En (runP En f) 175 [(Value.string (strOf v21)), (Value.int IntKind.u8 (Int.ofNat (byteAt x1 0)))]) fun v23 s24 _ =>
                      (gdL 63 (writesOf s24) s24 [⟨3, writesOf s22, s22⟩]
                        (cnd
                          (Prog.ret (Value.string (strOf v23)))
                          Prog.fail
                          (okK Kd.str v23))))
                    Prog.fail
                    (Nat.ble 1 (List.length (Array.toList (ByteArray.data x1)))))
                  Prog.fail
                  (okK Kd.str v21)))
              Prog.fail
              (Nat.ble 1 (List.length (Array.toList (ByteArray.data x1)))))
            (Prog.call (callF En (runP En f) 113 [(Value.string x1)]) fun v25 =>
              (cnd
                (callP (fun v27 =>
                  (cnd
                    (callP (fun v28 =>
                      (cnd
                        (Prog.call (callF En (runP En f) 114 [(Value.string x0), (Value.pointer (Option.some (Addr.mk (blkOf v27) (offOf v27) Option.none)))]) fun v29 =>
                          (cnd
                            (Prog.call (callF En (runP En f) 176 [(Value.string (strOf v29)), (Value.pointer (Option.some (Addr.mk (blkOf v27) (offOf v27) Option.none)))]) fun v30 =>
                              (cnd
                                (Prog.ret (Value.string (strOf v30)))
                                Prog.fail
                                (okK Kd.str v30)))
                            Prog.fail
                            (okK Kd.str v29)))
                        (Prog.call (callF En (runP En f) 115 [(Value.string x0), (Value.string x1)]) fun v31 =>
                          (cnd
                            (Prog.call (callF En (runP En f) 177 [(Value.string (strOf v31)), (Value.string x1)]) fun v32 =>
                              (cnd
                                (Prog.ret (Value.string (strOf v32)))
                                Prog.fail
                                (okK Kd.str v32)))
                            Prog.fail
                            (okK Kd.str v31)))
                        (boolOf (at_ (tupOf v25) 1))))
                      (storeT En 116 (blkOf v27) (offOf v27) (at_ (tupOf v25) 0)))
                    Prog.fail
                    (isPt v27)))
                  (Prog.newH (Hdr.mk 256 116 Bool.false Bool.true Bool.true 0 Bool.false Bool.false []) ((Value.bool Bool.false) :: ((Value.bool Bool.false) :: ((Value.bool Bool.false) :: ((Value.bool Bool.false) :: ((Value.bool Bool.false) :: ((Value.bool Bool.false) :: ((Value.bool Bool.false) :: ((Value.bool Bool.false) :: ((Value.bool Bool.false) :: ((Value.bool Bool.false) :: ((Value.bool Bool.false) :: ((Value.bool Bool.false) :: ((Value.bool Bool.false) :: ((Value.bool Bool.false) :: ((Value.bool Bool.false) :: ((Value.bool Bool.false) :: ((Value.bool Bool.false) :: ((Value.bool Bool.false) :: ((Value.bool Bool.false) :: ((Value.bool Bool.false) :: ((Value.bool Bool.false) :: ((Value.bool Bool.false) :: ((Value.bool Bool.false) :: ((Value.bool Bool.false) :: ((Value.bool Bool.false) :: ((Value.bool Bool.false) :: ((Value.bool Bool.false) :: ((Value.bool Bool.false) :: ((Value.bool Bool.false) :: ((Value.bool Bool.false) :: ((Value.bool Bool.false) :: ((Value.bool Bool.false) :: ((Value.bool Bool.false) :: ((Value.bool Bool.false) :: ((Value.bool Bool.false) :: ((Value.bool Bool.false) :: ((Value.bool Bool.false) :: ((Value.bool Bool.false) :: ((Value.bool Bool.false) :: ((Value.bool Bool.false) :: ((Value.bool Bool.false) :: ((Value.bool Bool.false) :: ((Value.bool Bool.false) :: ((Value.bool Bool.false) :: ((Value.bool Bool.false) :: ((Value.bool Bool.false) :: ((Value.bool Bool.false) :: ((Value.bool Bool.false) :: ((Value.bool Bool.false) :: ((Value.bool Bool.false) :: ((Value.bool Bool.false) :: ((Value.bool Bool.false) :: ((Value.bool Bool.false) :: ((Value.bool Bool.false) :: ((Value.bool Bool.false) :: ((Value.bool Bool.false) :: ((Value.bool Bool.false) :: ((Value.bool Bool.false) :: ((Value.bool Bool.false) :: ((Value.bool Bool.false) :: ((Value.bool Bool.false) :: ((Value.bool Bool.false) :: ((Value.bool Bool.false) :: ((Value.bool Bool.false) :: ((Value.bool Bool.false) :: ((Value.bool Bool.false) :: ((Value.bool Bool.false) :: ((Value.bool Bool.false) :: ((Value.bool Bool.false) :: ((Value.bool Bool.false) :: ((Value.bool Bool.false) :: ((Value.bool Bool.false) :: ((Value.bool Bool.false) :: ((Value.bool Bool.false) :: ((Value.bool Bool.false) :: ((Value.bool Bool.false) :: ((Value.bool Bool.false) :: ((Value.bool Bool.false) :: ((Value.bool Bool.false) :: ((Value.bool Bool.false) :: ((Value.bool Bool.false) :: ((Value.bool Bool.false) :: ((Value.bool Bool.false) :: ((Value.bool Bool.false) :: ((Value.bool Bool.false) :: ((Value.bool Bool.false) :: ((Value.bool Bool.false) :: ((Value.bool Bool.false) :: ((Value.bool Bool.false) :: ((Value.bool Bool.false) :: ((Value.bool Bool.false) :: ((Value.bool Bool.false) :: ((Value.bool Bool.false) :: ((Value.bool Bool.false) :: ((Value.bool Bool.false) :: ((Value.bool Bool.false) :: ((Value.bool Bool.false) :: ((Value.bool Bool.false) :: ((Value.bool Bool.false) :: ((Value.bool Bool.false) :: ((Value.bool Bool.false) :: ((Value.bool Bool.false) :: ((Value.bool Bool.false) :: ((Value.bool Bool.false) :: ((Value.bool Bool.false) :: ((Value.bool Bool.false) :: ((Value.bool Bool.false) :: ((Value.bool Bool.false) :: ((Value.bool Bool.false) :: ((Value.bool Bool.false) :: ((Value.bool Bool.false) :: ((Value.bool Bool.false) :: ((Value.bool Bool.false) :: ((Value.bool Bool.false) :: ((Value.bool Bool.false) :: ((Value.bool Bool.false) :: ((Value.bool Bool.false) :: ((Value.bool Bool.false) :: ((Value.bool Bool.false) :: ((Value.bool Bool.false) :: ((Value.bool Bool.false) :: ((Value.bool Bool.false) :: ((Value.bool Bool.false) :: ((Value.bool Bool.false) :: ((Value.bool Bool.false) :: ((Value.bool Bool.false) :: ((Value.bool Bool.false) :: ((Value.bool Bool.false) :: ((Value.bool Bool.false) :: ((Value.bool Bool.false) :: ((Value.bool Bool.false) :: ((Value.bool Bool.false) :: ((Value.bool Bool.false) :: ((Value.bool Bool.false) :: ((Value.bool Bool.false) :: ((Value.bool Bool.false) :: ((Value.bool Bool.false) :: ((Value.bool Bool.false) :: ((Value.bool Bool.false) :: ((Value.bool Bool.false) :: ((Value.bool Bool.false) :: ((Value.bool Bool.false) :: ((Value.bool Bool.false) :: ((Value.bool Bool.false) :: ((Value.bool Bool.false) :: ((Value.bool Bool.false) :: ((Value.bool Bool.false) :: ((Value.bool Bool.false) :: ((Value.bool Bool.false) :: ((Value.bool Bool.false) :: ((Value.bool Bool.false) :: ((Value.bool Bool.false) :: ((Value.bool Bool.false) :: ((Value.bool Bool.false) :: ((Value.bool Bool.false) :: ((Value.bool Bool.false) :: ((Value.bool Bool.false) :: ((Value.bool Bool.false) :: ((Value.bool Bool.false) :: ((Value.bool Bool.false) :: ((Value.bool Bool.false) :: ((Value.bool Bool.false) :: ((Value.bool Bool.false) :: ((Value.bool Bool.false) :: ((Value.bool Bool.false) :: ((Value.bool Bool.false) :: ((Value.bool Bool.false) :: ((Value.bool Bool.false) :: ((Value.bool Bool.false) :: ((Value.bool Bool.false) :: ((Value.bool Bool.false) :: ((Value.bool Bool.false) :: ((Value.bool Bool.false) :: ((Value.bool Bool.false) :: ((Value.bool Bool.false) :: ((Value.bool Bool.false) :: ((Value.bool Bool.false) :: ((Value.bool Bool.false) :: ((Value.bool Bool.false) :: ((Value.bool Bool.false) :: ((Value.bool Bool.false) :: ((Value.bool Bool.false) :: ((Value.bool Bool.false) :: ((Value.bool Bool.false) :: ((Value.bool Bool.false) :: ((Value.bool Bool.false) :: ((Value.bool Bool.false) :: ((Value.bool Bool.false) :: ((Value.bool Bool.false) :: ((Value.bool Bool.false) :: ((Value.bool Bool.false) :: ((Value.bool Bool.false) :: ((Value.bool Bool.false) :: ((Value.bool Bool.false) :: ((Value.bool Bool.false) :: ((Value.bool Bool.false) :: ((Value.bool Bool.false) :: ((Value.bool Bool.false) :: ((Value.bool Bool.false) :: ((Value.bool Bool.false) :: ((Value.bool Bool.false) :: ((Value.bool Bool.false) :: ((Value.bool Bool.false) :: ((Value.bool Bool.false) :: ((Value.bool Bool.false) :: ((Value.bool Bool.false) :: ((Value.bool Bool.false) :: ((Value.bool Bool.false) :: ((Value.bool Bool.false) :: ((Value.bool Bool.false) :: ((Value.bool Bool.false) :: ((Value.bool Bool.false) :: ((Value.bool Bool.false) :: ((Value.bool Bool.false) :: ((Value.bool Bool.false) :: ((Value.bool Bool.false) :: ((Value.bool Bool.false) :: ((Value.bool Bool.false) :: ((Value.bool Bool.false) :: ((Value.bool Bool.false) :: ((Value.bool Bool.false) :: ((Value.bool Bool.false) :: ((Value.bool Bool.false) :: ((Value.bool Bool.false) :: ((Value.bool Bool.false) :: ((Value.bool Bool.false) :: ((Value.bool Bool.false) :: ((Value.bool Bool.false) :: ((Value.bool Bool.false) :: ((Value.bool Bool.false) :: ((Value.bool Bool.false) :: ((Value.bool Bool.false) :: ((Value.bool Bool.false) :: ((Value.bool Bool.false) :: ((Value.bool Bool.false) :: ((Value.bool Bool.false) :: ((Value.bool Bool.false) :: ((Value.bool Bool.false) :: ((Value.bool Bool.false) :: ((Value.bool Bool.false) :: ((Value.bool Bool.false) :: ((Value.bool Bool.false) :: ((Value.bool Bool.false) :: ((Value.bool Bool.false) :: ((Value.bool Bool.false) :: ((Value.bool Bool.false) :: ((Value.bool Bool.false) :: ((Value.bool Bool.false) :: ((Value.bool Bool.false) :: ((Value.bool Bool.false) :: ((Value.bool Bool.false) :: ((Value.bool Bool.false) :: ((Value.bool Bool.false) :: ((Value.bool Bool.false) :: ((Value.bool Bool.false) :: ((Value.bool Bool.false) :: [])))))))))))))))))))))))))))))))))))))))))))))))))))))))))))))))))))))))))))))))))))))))))))))))))))))))))))))))))))))))))))))))))))))))))))))))))))))))))))))))))))))))))))))))))))))))))))))))))))))))))))))))))))))))))))))))))))))))))))))))))))))))))))))))) (fun z26 => (Prog.ret (itP z26)))))
                Prog.fail
                ((isTupV v25) && (okNs (Nm.raw :: ((Nm.one Kd.bool) :: [])) (tupOf v25)))))
            (decide ((Int.ofNat (byteAt x1 0)) < (128 : Int))))
          Prog.fail
          (Nat.ble 1 (List.length (Array.toList (ByteArray.data x1)))))
        (Prog.call (callF En (runP En f) 113 [(Value.string x1)]) fun v33 =>
          (cnd
            (callP (fun v35 =>
              (cnd
                (callP (fun v36 =>
                  (cnd
                    (Prog.call (callF En (runP En f) 114 [(Value.string x0), (Value.pointer (Option.some (Addr.mk (blkOf v35) (offOf v35) Option.none)))]) fun v37 =>
                      (cnd
                        (Prog.call (callF En (runP En f) 176 [(Value.string (strOf v37)), (Value.pointer (Option.some (Addr.mk (blkOf v35) (offOf v35) Option.none)))]) fun v38 =>
                          (cnd
                            (Prog.ret (Value.string (strOf v38)))
                            Prog.fail
                            (okK Kd.str v38)))
                        Prog.fail
                        (okK Kd.str v37)))
                    (Prog.call (callF En (runP En f) 115 [(Value.string x0), (Value.string x1)]) fun v39 =>
                      (cnd
                        (Prog.call (callF En (runP En f) 177 [(Value.string (strOf v39)), (Value.string x1)]) fun v40 =>
                          (cnd
                            (Prog.ret (Value.string (strOf v40)))
                            Prog.fail
                            (okK Kd.str v40)))
                        Prog.fail
                        (okK Kd.str v39)))
                    (boolOf (at_ (tupOf v33) 1))))
                  (storeT En 116 (blkOf v35) (offOf v35) (at_ (tupOf v33) 0)))
                Prog.fail
                (isPt v35)))
              (Prog.newH (Hdr.mk 256 116 Bool.false Bool.true Bool.true 0 Bool.false Bool.false []) ((Value.bool Bool.false) :: ((Value.bool Bool.false) :: ((Value.bool Bool.false) :: ((Value.bool Bool.false) :: ((Value.bool Bool.false) :: ((Value.bool Bool.false) :: ((Value.bool Bool.false) :: ((Value.bool Bool.false) :: ((Value.bool Bool.false) :: ((Value.bool Bool.false) :: ((Value.bool Bool.false) :: ((Value.bool Bool.false) :: ((Value.bool Bool.false) :: ((Value.bool Bool.false) :: ((Value.bool Bool.false) :: ((Value.bool Bool.false) :: ((Value.bool Bool.false) :: ((Value.bool Bool.false) :: ((Value.bool Bool.false) :: ((Value.bool Bool.false) :: ((Value.bool Bool.false) :: ((Value.bool Bool.false) :: ((Value.bool Bool.false) :: ((Value.bool Bool.false) :: ((Value.bool Bool.false) :: ((Value.bool Bool.false) :: ((Value.bool Bool.false) :: ((Value.bool Bool.false) :: ((Value.bool Bool.false) :: ((Value.bool Bool.false) :: ((Value.bool Bool.false) :: ((Value.bool Bool.false) :: ((Value.bool Bool.false) :: ((Value.bool Bool.false) :: ((Value.bool Bool.false) :: ((Value.bool Bool.false) :: ((Value.bool Bool.false) :: ((Value.bool Bool.false) :: ((Value.bool Bool.false) :: ((Value.bool Bool.false) :: ((Value.bool Bool.false) :: ((Value.bool Bool.false) :: ((Value.bool Bool.false) :: ((Value.bool Bool.false) :: ((Value.bool Bool.false) :: ((Value.bool Bool.false) :: ((Value.bool Bool.false) :: ((Value.bool Bool.false) :: ((Value.bool Bool.false) :: ((Value.bool Bool.false) :: ((Value.bool Bool.false) :: ((Value.bool Bool.false) :: ((Value.bool Bool.false) :: ((Value.bool Bool.false) :: ((Value.bool Bool.false) :: ((Value.bool Bool.false) :: ((Value.bool Bool.false) :: ((Value.bool Bool.false) :: ((Value.bool Bool.false) :: ((Value.bool Bool.false) :: ((Value.bool Bool.false) :: ((Value.bool Bool.false) :: ((Value.bool Bool.false) :: ((Value.bool Bool.false) :: ((Value.bool Bool.false) :: ((Value.bool Bool.false) :: ((Value.bool Bool.false) :: ((Value.bool Bool.false) :: ((Value.bool Bool.false) :: ((Value.bool Bool.false) :: ((Value.bool Bool.false) :: ((Value.bool Bool.false) :: ((Value.bool Bool.false) :: ((Value.bool Bool.false) :: ((Value.bool Bool.false) :: ((Value.bool Bool.false) :: ((Value.bool Bool.false) :: ((Value.bool Bool.false) :: ((Value.bool Bool.false) :: ((Value.bool Bool.false) :: ((Value.bool Bool.false) :: ((Value.bool Bool.false) :: ((Value.bool Bool.false) :: ((Value.bool Bool.false) :: ((Value.bool Bool.false) :: ((Value.bool Bool.false) :: ((Value.bool Bool.false) :: ((Value.bool Bool.false) :: ((Value.bool Bool.false) :: ((Value.bool Bool.false) :: ((Value.bool Bool.false) :: ((Value.bool Bool.false) :: ((Value.bool Bool.false) :: ((Value.bool Bool.false) :: ((Value.bool Bool.false) :: ((Value.bool Bool.false) :: ((Value.bool Bool.false) :: ((Value.bool Bool.false) :: ((Value.bool Bool.false) :: ((Value.bool Bool.false) :: ((Value.bool Bool.false) :: ((Value.bool Bool.false) :: ((Value.bool Bool.false) :: ((Value.bool Bool.false) :: ((Value.bool Bool.false) :: ((Value.bool Bool.false) :: ((Value.bool Bool.false) :: ((Value.bool Bool.false) :: ((Value.bool Bool.false) :: ((Value.bool Bool.false) :: ((Value.bool Bool.false) :: ((Value.bool Bool.false) :: ((Value.bool Bool.false) :: ((Value.bool Bool.false) :: ((Value.bool Bool.false) :: ((Value.bool Bool.false) :: ((Value.bool Bool.false) :: ((Value.bool Bool.false) :: ((Value.bool Bool.false) :: ((Value.bool Bool.false) :: ((Value.bool Bool.false) :: ((Value.bool Bool.false) :: ((Value.bool Bool.false) :: ((Value.bool Bool.false) :: ((Value.bool Bool.false) :: ((Value.bool Bool.false) :: ((Value.bool Bool.false) :: ((Value.bool Bool.false) :: ((Value.bool Bool.false) :: ((Value.bool Bool.false) :: ((Value.bool Bool.false) :: ((Value.bool Bool.false) :: ((Value.bool Bool.false) :: ((Value.bool Bool.false) :: ((Value.bool Bool.false) :: ((Value.bool Bool.false) :: ((Value.bool Bool.false) :: ((Value.bool Bool.false) :: ((Value.bool Bool.false) :: ((Value.bool Bool.false) :: ((Value.bool Bool.false) :: ((Value.bool Bool.false) :: ((Value.bool Bool.false) :: ((Value.bool Bool.false) :: ((Value.bool Bool.false) :: ((Value.bool Bool.false) :: ((Value.bool Bool.false) :: ((Value.bool Bool.false) :: ((Value.bool Bool.false) :: ((Value.bool Bool.false) :: ((Value.bool Bool.false) :: ((Value.bool Bool.false) :: ((Value.bool Bool.false) :: ((Value.bool Bool.false) :: ((Value.bool Bool.false) :: ((Value.bool Bool.false) :: ((Value.bool Bool.false) :: ((Value.bool Bool.false) :: ((Value.bool Bool.false) :: ((Value.bool Bool.false) :: ((Value.bool Bool.false) :: ((Value.bool Bool.false) :: ((Value.bool Bool.false) :: ((Value.bool Bool.false) :: ((Value.bool Bool.false) :: ((Value.bool Bool.false) :: ((Value.bool Bool.false) :: ((Value.bool Bool.false) :: ((Value.bool Bool.false) :: ((Value.bool Bool.false) :: ((Value.bool Bool.false) :: ((Value.bool Bool.false) :: ((Value.bool Bool.false) :: ((Value.bool Bool.false) :: ((Value.bool Bool.false) :: ((Value.bool Bool.false) :: ((Value.bool Bool.false) :: ((Value.bool Bool.false) :: ((Value.bool Bool.false) :: ((Value.bool Bool.false) :: ((Value.bool Bool.false) :: ((Value.bool Bool.false) :: ((Value.bool Bool.false) :: ((Value.bool Bool.false) :: ((Value.bool Bool.false) :: ((Value.bool Bool.false) :: ((Value.bool Bool.false) :: ((Value.bool Bool.false) :: ((Value.bool Bool.false) :: ((Value.bool Bool.false) :: ((Value.bool Bool.false) :: ((Value.bool Bool.false) :: ((Value.bool Bool.false) :: ((Value.bool Bool.false) :: ((Value.bool Bool.false) :: ((Value.bool Bool.false) :: ((Value.bool Bool.false) :: ((Value.bool Bool.false) :: ((Value.bool Bool.false) :: ((Value.bool Bool.false) :: ((Value.bool Bool.false) :: ((Value.bool Bool.false) :: ((Value.bool Bool.false) :: ((Value.bool Bool.false) :: ((Value.bool Bool.false) :: ((Value.bool Bool.false) :: ((Value.bool Bool.false) :: ((Value.bool Bool.false) :: ((Value.bool Bool.false) :: ((Value.bool Bool.false) :: ((Value.bool Bool.false) :: ((Value.bool Bool.false) :: ((Value.bool Bool.false) :: ((Value.bool Bool.false) :: ((Value.bool Bool.false) :: ((Value.bool Bool.false) :: ((Value.bool Bool.false) :: ((Value.bool Bool.false) :: ((Value.bool Bool.false) :: ((Value.bool Bool.false) :: ((Value.bool Bool.false) :: ((Value.bool Bool.false) :: ((Value.bool Bool.false) :: ((Value.bool Bool.false) :: ((Value.bool Bool.false) :: ((Value.bool Bool.false) :: ((Value.bool Bool.false) :: ((Value.bool Bool.false) :: ((Value.bool Bool.false) :: ((Value.bool Bool.false) :: ((Value.bool Bool.false) :: ((Value.bool Bool.false) :: ((Value.bool Bool.false) :: ((Value.bool Bool.false) :: ((Value.bool Bool.false) :: ((Value.bool Bool.false) :: ((Value.bool Bool.false) :: ((Value.bool Bool.false) :: ((Value.bool Bool.false) :: ((Value.bool Bool.false) :: ((Value.bool Bool.false) :: ((Value.bool Bool.false) :: ((Value.bool Bool.false) :: ((Value.bool Bool.false) :: ((Value.bool Bool.false) :: ((Value.bool Bool.false) :: ((Value.bool Bool.false) :: ((Value.bool Bool.false) :: ((Value.bool Bool.false) :: ((Value.bool Bool.false) :: ((Value.bool Bool.false) :: ((Value.bool Bool.false) :: ((Value.bool Bool.false) :: ((Value.bool Bool.false) :: ((Value.bool Bool.false) :: ((Value.bool Bool.false) :: [])))))))))))))))))))))))))))))))))))))))))))))))))))))))))))))))))))))))))))))))))))))))))))))))))))))))))))))))))))))))))))))))))))))))))))))))))))))))))))))))))))))))))))))))))))))))))))))))))))))))))))))))))))))))))))))))))))))))))))))))))))))))))))))))) (fun z34 => (Prog.ret (itP z34)))))
            Prog.fail
            ((isTupV v33) && (okNs (Nm.raw :: ((Nm.one Kd.bool) :: [])) (tupOf v33)))))
        (decide ((Int.ofNat (List.length (Array.toList (ByteArray.data x1)))) = (1 : Int))))
      (beqB (Array.toList (ByteArray.data x1)) []))
    (beqB (Array.toList (ByteArray.data x0)) [])) := by kernel_rfl
end Go.Proofs.YtmjbmbmnnephjaaGreatDoor
/- What comes of the points of a function: printed by the tool. -/
namespace Go.Proofs.YtmjbmbmnnephjaaGreatDoor
open Go Go.Ev Go.Proofs
set_option maxRecDepth 8000
set_option linter.unusedVariables false
noncomputable def p119_3 (f : Nat) (x0 : Nat) (x1 : Int) (x5 : Nat) (x5o : Nat) : Prog := runP En f 119 (tmL 34 [(0, (Value.pointer (Option.some (Addr.mk x0 0 Option.none)))), (1, (Value.int IntKind.i64 x1)), (5, (Value.pointer (Option.some (Addr.mk x5 x5o Option.none))))]) [.code (cR (cR (cB 119)))] [] none
theorem p119_3_eq (f : Nat) (x0 : Nat) (x1 : Int) (x5 : Nat) (x5o : Nat) : p119_3 (f + 1) x0 x1 x5 x5o =
  (Prog.seg (loadT En 9 x0 0) fun v7 s8 _ =>
    (cnd
      (Prog.seg (loadT En 3 x0 1) fun v9 s10 _ =>
        (gdL 3840 (writesOf s10) s10 [⟨6, writesOf s8, s8⟩]
          (cnd
            (cnd
              (cnd
                (cnd
                  (Prog.seg (loadT En 32 x5 x5o) fun v11 s12 _ =>
                    (gdL 0 (writesOf s12) s12 [⟨12, writesOf s10, s10⟩, ⟨6, writesOf s8, s8⟩]
                      (cnd
                        (Prog.seg (callF En (runP En f) 63 [(Value.pointer (Option.some (Addr.mk x0 0 Option.none))), (Value.int IntKind.i64 (1 : Int)), (Value.int IntKind.i64 x1), (Value.string (mkStr (List.take ((Int.toNat (intOf v9)) - (Int.toNat x1)) (List.drop (Int.toNat x1) (Array.toList (ByteArray.data (strOf v7))))))), (Value.agg ⟨((Value.int IntKind.i64 (intOf (at_ (aggOf v11) 0))) :: ((lstV (elems (at_ (aggOf v11) 1))) :: ((lstV (elems (at_ (aggOf v11) 2))) :: ((lstV (elems (at_ (aggOf v11) 3))) :: []))))⟩)]) fun v13 s14 _ =>
                          (gdL 32767 (writesOf s14) s14 [⟨14, writesOf s12, s12⟩, ⟨12, writesOf s10, s10⟩, ⟨6, writesOf s8, s8⟩]
                            (cnd
                              (Prog.ret (Value.tuple ⟨[]⟩))
                              Prog.fail
                              ((isTupV v13) && (okNs [] (tupOf v13))))))
                        Prog.fail
                        ((isAggV v11) && (okKs ((Kd.int IntKind.i64) :: (Kd.lst :: (Kd.lst :: (Kd.lst :: [])))) (aggOf v11))))))
                  Prog.fail
                  ((Nat.ble (Int.toNat x1) (Int.toNat (intOf v9))) && (Nat.ble (Int.toNat (intOf v9)) (List.length (Array.toList (ByteArray.data (strOf v7)))))))
                Prog.fail
                (decide ((0 : Int) ≤ (intOf v9))))
              Prog.fail
              (decide ((0 : Int) ≤ x1)))
            Prog.fail
            (okK (Kd.int IntKind.i64) v9))))
      Prog.fail
      (okK Kd.str v7))) := by kernel_rfl
theorem f119_eq (f : Nat) (x0 : Nat) (x1 : Int) (x2_0 : Int) (x2_1 : List Value) (x2_2 : List Value) (x2_3 : List Value) : callF En (runP En (f + 1)) 119 [(Value.pointer (Option.some (Addr.mk x0 0 Option.none))), (Value.int IntKind.i64 x1), (Value.agg ⟨((Value.int IntKind.i64 x2_0) :: ((lstV x2_1) :: ((lstV x2_2) :: ((lstV x2_3) :: []))))⟩)] =
  (gd Bool.true
    (callP (fun v16 =>
      (cnd
        (callP (fun v17 =>
          (cnd
            (callP (fun v18 =>
              (cnd
                (cnd
                  (callP (fun v19 =>
                    (cnd
                      (callP (fun v20 =>
                        (p119_3 f x0 x1 (blkOf v16) (offOf v16)))
                        (storeT En 3 (blkOf v16) ((offOf v16) + 0) (Value.int IntKind.i64 (IntKind.wrap IntKind.i64 ((0 : Int) + (Int.neg (intOf v19)))))))
                      Prog.fail
                      (okK (Kd.int IntKind.i64) v19)))
                    (loadT En 3 (blkOf v16) ((offOf v16) + 0)))
                  (p119_3 f x0 x1 (blkOf v16) (offOf v16))
                  (decide ((IntKind.wrap IntKind.i64 (Int.ofNat ((List.length (elems v17)) + (List.length (elems v18))))) = (1 : Int))))
                Prog.fail
                (isLst v18)))
              (loadT En 29 (blkOf v16) ((offOf v16) + 2)))
            Prog.fail
            (isLst v17)))
          (loadT En 28 (blkOf v16) ((offOf v16) + 1)))
        Prog.fail
        (isPt v16)))
      (Prog.newH (Hdr.mk 4 32 Bool.false Bool.true Bool.true 0 Bool.false Bool.false []) ((Value.int IntKind.i64 x2_0) :: ((lstV x2_1) :: ((lstV x2_2) :: ((lstV x2_3) :: [])))) (fun z15 => (Prog.ret (itP z15)))))) := by kernel_rfl
end Go.Proofs.YtmjbmbmnnephjaaGreatDoor
/- What comes of the points of a function: printed by the tool. -/
namespace Go.Proofs.YtmjbmbmnnephjaaGreatDoor
open Go Go.Ev Go.Proofs
set_option maxRecDepth 8000
set_option linter.unusedVariables false
noncomputable def p120_4 (f : Nat) (x0 : Nat) (x3 : Int) : Prog := runP En f 120 (tmL 55 [(0, (Value.pointer (Option.some (Addr.mk x0 0 Option.none)))), (3, (Value.int IntKind.i64 x3))]) [.code (cL (cR (cR (cR (cB 120))))), .code (cR (cR (cR (cR (cB 120)))))] [] none
theorem p120_4_eq (f : Nat) (x0 : Nat) (x3 : Int) : p120_4 (f + 1) x0 x3 =
  (callP (fun v2 =>
    (cnd
      (callP (fun v3 =>
        (Prog.call (callF En (runP En f) 32 [(Value.pointer (Option.some (Addr.mk x0 0 Option.none))), (Value.func (Fn.func 116) ⟨[]⟩ ⟨[]⟩)]) fun v4 =>
          (cnd
            (callP (fun v5 =>
              (cnd
                (callP (fun v6 =>
                  (Prog.seg (loadT En 9 x0 0) fun v7 s8 _ =>
                    (cnd
                      (Prog.seg (loadT En 3 x0 1) fun v9 s10 _ =>
                        (gdL 480 (writesOf s10) s10 [⟨4, writesOf s8, s8⟩]
                          (cnd
                            (Prog.seg (loadT En 3 x0 1) fun v11 s12 _ =>
                              (gdL 15360 (writesOf s12) s12 [⟨9, writesOf s10, s10⟩, ⟨4, writesOf s8, s8⟩]
                                (cnd
                                  (cnd
                                    (cnd
                                      (cnd
                                        (Prog.ret (Value.string (mkStr (List.take ((Int.toNat (IntKind.wrap IntKind.i64 ((IntKind.wrap IntKind.i64 ((intOf v11) + x3)) + (Int.ofNat (List.length (Array.toList (ByteArray.data (strOf v4)))))))) - (Int.toNat (intOf v9))) (List.drop (Int.toNat (intOf v9)) (Array.toList (ByteArray.data (strOf v7))))))))
                                        Prog.fail
                                        ((Nat.ble (Int.toNat (intOf v9)) (Int.toNat (IntKind.wrap IntKind.i64 ((IntKind.wrap IntKind.i64 ((intOf v11) + x3)) + (Int.ofNat (List.length (Array.toList (ByteArray.data (strOf v4))))))))) && (Nat.ble (Int.toNat (IntKind.wrap IntKind.i64 ((IntKind.wrap IntKind.i64 ((intOf v11) + x3)) + (Int.ofNat (List.length (Array.toList (ByteArray.data (strOf v4)))))))) (List.length (Array.toList (ByteArray.data (strOf v7)))))))
                                      Prog.fail
                                      (decide ((0 : Int) ≤ (IntKind.wrap IntKind.i64 ((IntKind.wrap IntKind.i64 ((intOf v11) + x3)) + (Int.ofNat (List.length (Array.toList (ByteArray.data (strOf v4))))))))))
                                    Prog.fail
                                    (decide ((0 : Int) ≤ (intOf v9))))
                                  Prog.fail
                                  (okK (Kd.int IntKind.i64) v11))))
                            Prog.fail
                            (okK (Kd.int IntKind.i64) v9))))
                      Prog.fail
                      (okK Kd.str v7))))
                  (storeT En 3 x0 1 (Value.int IntKind.i64 (IntKind.wrap IntKind.i64 ((intOf v5) + (Int.neg x3))))))
                Prog.fail
                (okK (Kd.int IntKind.i64) v5)))
              (loadT En 3 x0 1))
            Prog.fail
            (okK Kd.str v4))))
        (storeT En 3 x0 1 (Value.int IntKind.i64 (IntKind.wrap IntKind.i64 ((intOf v2) + x3)))))
      Prog.fail
      (okK (Kd.int IntKind.i64) v2)))
    (loadT En 3 x0 1)) := by kernel_rfl
theorem f120_eq (f : Nat) (x0 : Nat) : callF En (runP En (f + 1)) 120 [(Value.pointer (Option.some (Addr.mk x0 0 Option.none)))] =
  (Prog.call (callF En (runP En f) 59 [(Value.pointer (Option.some (Addr.mk x0 0 Option.none))), (Value.int IntKind.i64 (0 : Int))]) fun v13 =>
    (cnd
      (cnd
        (p120_4 f x0 (1 : Int))
        (p120_4 f x0 (0 : Int))
        (decide ((intOf v13) = (45 : Int))))
      Prog.fail
      (okK (Kd.int IntKind.u8) v13))) := by kernel_rfl
end Go.Proofs.YtmjbmbmnnephjaaGreatDoor
/- What comes of the points of a function: printed by the tool. -/
namespace Go.Proofs.YtmjbmbmnnephjaaGreatDoor
open Go Go.Ev Go.Proofs
set_option maxRecDepth 8000
set_option linter.unusedVariables false
noncomputable def p121_12 (f : Nat) (x0 : ByteArray) (x5 : Int) : Prog := runP En f 121 (tmL 97 [(0, (Value.string x0)), (5, (Value.int IntKind.i64 x5))]) [.code (cL (cR (cR (cR (cR (cB 121)))))), .code (cR (cR (cR (cR (cR (cB 121))))))] [] none
noncomputable def p121_19 (f : Nat) (x5 : Int) (x8 : Bool) (x9 : ByteArray) (x10 : ByteArray) (x11 : Bool) : Prog := runP En f 121 (tmL 97 [(5, (Value.int IntKind.i64 x5)), (8, (Value.bool x8)), (9, (Value.string x9)), (10, (Value.string x10)), (11, (Value.bool x11))]) [.code (cL (cL (cR (cR (cR (cR (cR (cR (cR (cB 121)))))))))), .code (cR (cL (cR (cR (cR (cR (cR (cR (cR (cB 121)))))))))), .code (cR (cR (cR (cR (cR (cR (cR (cR (cB 121)))))))))] [] none
theorem p121_12_eq (f : Nat) (x0 : ByteArray) (x5 : Int) : p121_12 (f + 1) x0 x5 =
  (Prog.call (callF En (runP En f) 136 [(Value.string x0), (Value.string (mkStr [45]))]) fun v10 =>
    (cnd
      (Prog.call (callF En (runP En f) 178 [(Value.string (strOf (at_ (tupOf v10) 0))), (Value.string (mkStr [46]))]) fun v11 =>
        (cnd
          (cnd
            (cnd
              (Prog.ret (Value.tuple ⟨((Value.int IntKind.i64 (0 : Int)) :: ((Value.int IntKind.i64 (0 : Int)) :: ((Value.bool Bool.false) :: [])))⟩))
              (cnd
                (Prog.ret (Value.tuple ⟨((Value.int IntKind.i64 (0 : Int)) :: ((Value.int IntKind.i64 (0 : Int)) :: ((Value.bool Bool.false) :: [])))⟩))
                (cnd
                  (Prog.ret (Value.tuple ⟨((Value.int IntKind.i64 (0 : Int)) :: ((Value.int IntKind.i64 (0 : Int)) :: ((Value.bool Bool.false) :: [])))⟩))
                  (cnd
                    (cnd
                      (cnd
                        (p121_19 f (5 : Int) (boolOf (at_ (tupOf v10) 1)) (mkStr ((Array.toList (ByteArray.data (strOf (at_ (tupOf v11) 0)))) ++ ((Array.toList (ByteArray.data (strOf (at_ (tupOf v11) 1)))) ++ (List.take (4 - (List.length (Array.toList (ByteArray.data (strOf (at_ (tupOf v11) 1)))))) (List.drop (List.length (Array.toList (ByteArray.data (strOf (at_ (tupOf v11) 1))))) ((UInt8.ofBitVec (BitVec.ofFin (Fin.mk 48 (Nat.mod_lt 48 (BitVec.ofNat._proof_1 8))))) :: ((UInt8.ofBitVec (BitVec.ofFin (Fin.mk 48 (Nat.mod_lt 48 (BitVec.ofNat._proof_1 8))))) :: ((UInt8.ofBitVec (BitVec.ofFin (Fin.mk 48 (Nat.mod_lt 48 (BitVec.ofNat._proof_1 8))))) :: ((UInt8.ofBitVec (BitVec.ofFin (Fin.mk 48 (Nat.mod_lt 48 (BitVec.ofNat._proof_1 8))))) :: []))))))))) (strOf (at_ (tupOf v11) 1)) (boolOf (at_ (tupOf v11) 2)))
                        Prog.fail
                        (Nat.ble ((List.length (Array.toList (ByteArray.data (strOf (at_ (tupOf v11) 0))))) + (List.length ((Array.toList (ByteArray.data (strOf (at_ (tupOf v11) 1)))) ++ (List.take (4 - (List.length (Array.toList (ByteArray.data (strOf (at_ (tupOf v11) 1)))))) (List.drop (List.length (Array.toList (ByteArray.data (strOf (at_ (tupOf v11) 1))))) ((UInt8.ofBitVec (BitVec.ofFin (Fin.mk 48 (Nat.mod_lt 48 (BitVec.ofNat._proof_1 8))))) :: ((UInt8.ofBitVec (BitVec.ofFin (Fin.mk 48 (Nat.mod_lt 48 (BitVec.ofNat._proof_1 8))))) :: ((UInt8.ofBitVec (BitVec.ofFin (Fin.mk 48 (Nat.mod_lt 48 (BitVec.ofNat._proof_1 8))))) :: ((UInt8.ofBitVec (BitVec.ofFin (Fin.mk 48 (Nat.mod_lt 48 (BitVec.ofNat._proof_1 8))))) :: []))))))))) 9223372036854775807))
                      Prog.fail
                      (Nat.ble ((List.length (Array.toList (ByteArray.data (strOf (at_ (tupOf v11) 1))))) + (List.length (List.take (4 - (List.length (Array.toList (ByteArray.data (strOf (at_ (tupOf v11) 1)))))) (List.drop (List.length (Array.toList (ByteArray.data (strOf (at_ (tupOf v11) 1))))) ((UInt8.ofBitVec (BitVec.ofFin (Fin.mk 48 (Nat.mod_lt 48 (BitVec.ofNat._proof_1 8))))) :: ((UInt8.ofBitVec (BitVec.ofFin (Fin.mk 48 (Nat.mod_lt 48 (BitVec.ofNat._proof_1 8))))) :: ((UInt8.ofBitVec (BitVec.ofFin (Fin.mk 48 (Nat.mod_lt 48 (BitVec.ofNat._proof_1 8))))) :: ((UInt8.ofBitVec (BitVec.ofFin (Fin.mk 48 (Nat.mod_lt 48 (BitVec.ofNat._proof_1 8))))) :: [])))))))) 9223372036854775807))
                    Prog.fail
                    ((Nat.ble (List.length (Array.toList (ByteArray.data (strOf (at_ (tupOf v11) 1))))) 4) && Bool.true))
                  (decide ((Int.ofNat (List.length (Array.toList (ByteArray.data (strOf (at_ (tupOf v11) 1)))))) > (4 : Int))))
                (beqB (Array.toList (ByteArray.data (strOf (at_ (tupOf v11) 1)))) []))
              (decide (x5 = (4 : Int))))
            (p121_19 f x5 (boolOf (at_ (tupOf v10) 1)) (strOf (at_ (tupOf v11) 0)) (strOf (at_ (tupOf v11) 1)) (boolOf (at_ (tupOf v11) 2)))
            (boolOf (at_ (tupOf v11) 2)))
          Prog.fail
          ((isTupV v11) && (okNs ((Nm.one Kd.str) :: ((Nm.one Kd.str) :: ((Nm.one Kd.bool) :: []))) (tupOf v11)))))
      Prog.fail
      ((isTupV v10) && (okNs ((Nm.one Kd.str) :: ((Nm.one Kd.bool) :: [])) (tupOf v10))))) := by kernel_rfl
theorem p121_19_eq (f : Nat) (x5 : Int) (x8 : Bool) (x9 : ByteArray) (x10 : ByteArray) (x11 : Bool) : p121_19 (f + 1) x5 x8 x9 x10 x11 =
  (cnd
    (Prog.ret (Value.tuple ⟨((Value.int IntKind.i64 (0 : Int)) :: ((Value.int IntKind.i64 (0 : Int)) :: ((Value.bool Bool.false) :: [])))⟩))
    (Prog.call (callF En (runP En f) 118 [(Value.string x9), (Value.string (mkStr [48, 49, 50, 51, 52, 53, 54, 55, 56, 57]))]) fun v12 =>
      (cnd
        (cnd
          (Prog.ret (Value.tuple ⟨((Value.int IntKind.i64 (0 : Int)) :: ((Value.int IntKind.i64 (0 : Int)) :: ((Value.bool Bool.false) :: [])))⟩))
          (Prog.call (callF En (runP En f) 118 [(Value.string x10), (Value.string (mkStr [48, 49, 50, 51, 52, 53, 54, 55, 56, 57]))]) fun v13 =>
            (cnd
              (cnd
                (Prog.ret (Value.tuple ⟨((Value.int IntKind.i64 (0 : Int)) :: ((Value.int IntKind.i64 (0 : Int)) :: ((Value.bool Bool.false) :: [])))⟩))
                (cnd
                  (cnd
                    (Prog.ret (Value.tuple ⟨((Value.int IntKind.i64 (0 : Int)) :: ((Value.int IntKind.i64 (0 : Int)) :: ((Value.bool Bool.false) :: [])))⟩))
                    (Prog.call (callF En (runP En f) 179 [(Value.string x9), (Value.int IntKind.i64 (10 : Int)), (Value.int IntKind.i64 (64 : Int))]) fun v14 =>
                      (cnd
                        (binK En BinOp.neq 103 (Operand.tmp 83) (Operand.const Value.nilIface) (at_ (tupOf v14) 1) Value.nilIface fun v15 =>
                          (cnd
                            (cnd
                              (Prog.ret (Value.tuple ⟨((Value.int IntKind.i64 (0 : Int)) :: ((Value.int IntKind.i64 (0 : Int)) :: ((Value.bool Bool.false) :: [])))⟩))
                              (cnd
                                (Prog.ret (Value.tuple ⟨((Value.int IntKind.i64 (0 : Int)) :: ((Value.int IntKind.i64 (0 : Int)) :: ((Value.bool Bool.false) :: [])))⟩))
                                (cnd
                                  (Prog.ret (Value.tuple ⟨((Value.int IntKind.i64 x5) :: ((Value.int IntKind.i64 (IntKind.wrap IntKind.i64 ((0 : Int) + (Int.neg (IntKind.wrap IntKind.i64 (intOf (at_ (tupOf v14) 0))))))) :: ((Value.bool Bool.true) :: [])))⟩))
                                  (Prog.ret (Value.tuple ⟨((Value.int IntKind.i64 x5) :: ((Value.int IntKind.i64 (IntKind.wrap IntKind.i64 (intOf (at_ (tupOf v14) 0)))) :: ((Value.bool Bool.true) :: [])))⟩))
                                  x8)
                                (decide ((intOf (at_ (tupOf v14) 0)) > (9223372036854775807 : Int))))
                              (boolOf v15))
                            Prog.fail
                            (okK Kd.bool v15)))
                        Prog.fail
                        ((isTupV v14) && (okNs ((Nm.one (Kd.int IntKind.u64)) :: ((Nm.one Kd.raw) :: [])) (tupOf v14)))))
                    (decide ((Int.ofNat (List.length (Array.toList (ByteArray.data x9)))) = (4 : Int))))
                  (Prog.call (callF En (runP En f) 179 [(Value.string x9), (Value.int IntKind.i64 (10 : Int)), (Value.int IntKind.i64 (64 : Int))]) fun v16 =>
                    (cnd
                      (binK En BinOp.neq 103 (Operand.tmp 83) (Operand.const Value.nilIface) (at_ (tupOf v16) 1) Value.nilIface fun v17 =>
                        (cnd
                          (cnd
                            (Prog.ret (Value.tuple ⟨((Value.int IntKind.i64 (0 : Int)) :: ((Value.int IntKind.i64 (0 : Int)) :: ((Value.bool Bool.false) :: [])))⟩))
                            (cnd
                              (Prog.ret (Value.tuple ⟨((Value.int IntKind.i64 (0 : Int)) :: ((Value.int IntKind.i64 (0 : Int)) :: ((Value.bool Bool.false) :: [])))⟩))
                              (cnd
                                (Prog.ret (Value.tuple ⟨((Value.int IntKind.i64 x5) :: ((Value.int IntKind.i64 (IntKind.wrap IntKind.i64 ((0 : Int) + (Int.neg (IntKind.wrap IntKind.i64 (intOf (at_ (tupOf v16) 0))))))) :: ((Value.bool Bool.true) :: [])))⟩))
                                (Prog.ret (Value.tuple ⟨((Value.int IntKind.i64 x5) :: ((Value.int IntKind.i64 (IntKind.wrap IntKind.i64 (intOf (at_ (tupOf v16) 0)))) :: ((Value.bool Bool.true) :: [])))⟩))
                                x8)
                              (decide ((intOf (at_ (tupOf v16) 0)) > (9223372036854775807 : Int))))
                            (boolOf v17))
                          Prog.fail
                          (okK Kd.bool v17)))
                      Prog.fail
                      ((isTupV v16) && (okNs ((Nm.one (Kd.int IntKind.u64)) :: ((Nm.one Kd.raw) :: [])) (tupOf v16)))))
                  x11)
                (Bool.not (beqB (Array.toList (ByteArray.data (strOf v13))) [])))
              Prog.fail
              (okK Kd.str v13)))
          (Bool.not (beqB (Array.toList (ByteArray.data (strOf v12))) [])))
        Prog.fail
        (okK Kd.str v12)))
    (beqB (Array.toList (ByteArray.data x9)) [])) := by kernel_rfl
theorem f121_eq (f : Nat) (x0 : ByteArray) : callF En (runP En (f + 1)) 121 [(Value.string x0)] =
  (cnd
    (Prog.ret (Value.tuple ⟨((Value.int IntKind.i64 (2 : Int)) :: ((Value.int IntKind.i64 (-9223372036854775808 : Int)) :: ((Value.bool Bool.true) :: [])))⟩))
    (cnd
      (Prog.ret (Value.tuple ⟨((Value.int IntKind.i64 (4 : Int)) :: ((Value.int IntKind.i64 (-9223372036854775808 : Int)) :: ((Value.bool Bool.true) :: [])))⟩))
      (cnd
        (Prog.ret (Value.tuple ⟨((Value.int IntKind.i64 (5 : Int)) :: ((Value.int IntKind.i64 (-9223372036854775808 : Int)) :: ((Value.bool Bool.true) :: [])))⟩))
        (Prog.call (callF En (runP En f) 117 [(Value.string x0), (Value.string (mkStr [116]))]) fun v18 =>
          (cnd
            (cnd
              (p121_12 f (strOf (at_ (tupOf v18) 0)) (4 : Int))
              (p121_12 f x0 (2 : Int))
              (boolOf (at_ (tupOf v18) 1)))
            Prog.fail
            ((isTupV v18) && (okNs ((Nm.one Kd.str) :: ((Nm.one Kd.bool) :: [])) (tupOf v18)))))
        (beqB (Array.toList (ByteArray.data x0)) ((UInt8.ofBitVec (BitVec.ofFin (Fin.mk 48 (Nat.mod_lt 48 (BitVec.ofNat._proof_1 8))))) :: ((UInt8.ofBitVec (BitVec.ofFin (Fin.mk 78 (Nat.mod_lt 78 (BitVec.ofNat._proof_1 8))))) :: ((UInt8.ofBitVec (BitVec.ofFin (Fin.mk 100 (Nat.mod_lt 100 (BitVec.ofNat._proof_1 8))))) :: [])))))
      (beqB (Array.toList (ByteArray.data x0)) ((UInt8.ofBitVec (BitVec.ofFin (Fin.mk 48 (Nat.mod_lt 48 (BitVec.ofNat._proof_1 8))))) :: ((UInt8.ofBitVec (BitVec.ofFin (Fin.mk 78 (Nat.mod_lt 78 (BitVec.ofNat._proof_1 8))))) :: ((UInt8.ofBitVec (BitVec.ofFin (Fin.mk 116 (Nat.mod_lt 116 (BitVec.ofNat._proof_1 8))))) :: [])))))
    (beqB (Array.toList (ByteArray.data x0)) ((UInt8.ofBitVec (BitVec.ofFin (Fin.mk 48 (Nat.mod_lt 48 (BitVec.ofNat._proof_1 8))))) :: ((UInt8.ofBitVec (BitVec.ofFin (Fin.mk 78 (Nat.mod_lt 78 (BitVec.ofNat._proof_1 8))))) :: [])))) := by kernel_rfl
end Go.Proofs.YtmjbmbmnnephjaaGreatDoor
/- What comes of the points of a function: printed by the tool. -/
namespace Go.Proofs.YtmjbmbmnnephjaaGreatDoor
open Go Go.Ev Go.Proofs
set_option maxRecDepth 8000
set_option linter.unusedVariables false
noncomputable def p122_2 (f : Nat) (x0 : Nat) (x3 : Int) : Prog := runP En f 122 (tmL 75 [(0, (Value.pointer (Option.some (Addr.mk x0 0 Option.none)))), (3, (Value.int IntKind.i64 x3))]) [.code (cL (cL (cI (cI (cL (cR (cR (cB 122)))))))), .code (cR (cL (cI (cI (cL (cR (cR (cB 122)))))))), .code (cR (cI (cI (cL (cR (cR (cB 122))))))), .inLoop (cI (cI (cL (cR (cR (cB 122)))))), .inBlock 0, .code (cR (cR (cR (cB 122))))] [] none
theorem p122_2_eq (f : Nat) (x0 : Nat) (x3 : Int) : p122_2 (f + 1) x0 x3 =
  (Prog.call (callF En (runP En f) 59 [(Value.pointer (Option.some (Addr.mk x0 0 Option.none))), (Value.int IntKind.i64 x3)]) fun v1 =>
    (cnd
      (cnd
        (p122_2 f x0 (IntKind.wrap IntKind.i64 (x3 + (1 : Int))))
        (cnd
          (Prog.ret (Value.bool Bool.false))
          (callP (fun v2 =>
            (cnd
              (Prog.call (callF En (runP En f) 59 [(Value.pointer (Option.some (Addr.mk x0 0 Option.none))), (Value.int IntKind.i64 x3)]) fun v3 =>
                (cnd
                  (Prog.call (callF En (runP En f) 60 [(Value.int IntKind.u8 (intOf v3))]) fun v4 =>
                    (cnd
                      (cnd
                        (cnd
                          (Prog.ret (Value.bool Bool.false))
                          (Prog.call (callF En (runP En f) 59 [(Value.pointer (Option.some (Addr.mk x0 0 Option.none))), (Value.int IntKind.i64 (IntKind.wrap IntKind.i64 (x3 + (1 : Int))))]) fun v5 =>
                            (cnd
                              (Prog.call (callF En (runP En f) 60 [(Value.int IntKind.u8 (intOf v5))]) fun v6 =>
                                (cnd
                                  (cnd
                                    (Prog.ret (Value.bool Bool.false))
                                    (callP (fun v7 =>
                                      (cnd
                                        (gd Bool.true
                                          (callP (fun v9 =>
                                            (cnd
                                              (callP (fun v10 =>
                                                (Prog.call (callF En (runP En f) 32 [(Value.pointer (Option.some (Addr.mk (blkOf v9) (offOf v9) Option.none))), (Value.func (Fn.func 116) ⟨[]⟩ ⟨[]⟩)]) fun v11 =>
                                                  (cnd
                                                    (Prog.call (callF En (runP En f) 117 [(Value.string (strOf v11)), (Value.string (mkStr [98]))]) fun v12 =>
                                                      (cnd
                                                        (cnd
                                                          (cnd
                                                            (Prog.call (callF En (runP En f) 118 [(Value.string (strOf (at_ (tupOf v12) 0))), (Value.string (mkStr [48, 49]))]) fun v13 =>
                                                              (cnd
                                                                (cnd
                                                                  (Prog.ret (Value.bool Bool.false))
                                                                  (callP (fun v14 =>
                                                                    (Prog.ret (Value.bool Bool.true)))
                                                                    (storeT En 3 x0 1 (Value.int IntKind.i64 (IntKind.wrap IntKind.i64 ((intOf v2) + x3)))))
                                                                  (beqB (Array.toList (ByteArray.data (strOf v13))) []))
                                                                Prog.fail
                                                                (okK Kd.str v13)))
                                                            (callP (fun v15 =>
                                                              (Prog.ret (Value.bool Bool.true)))
                                                              (storeT En 3 x0 1 (Value.int IntKind.i64 (IntKind.wrap IntKind.i64 ((intOf v2) + x3)))))
                                                            (Bool.not (beqB (Array.toList (ByteArray.data (strOf (at_ (tupOf v12) 0)))) [])))
                                                          (callP (fun v16 =>
                                                            (Prog.ret (Value.bool Bool.true)))
                                                            (storeT En 3 x0 1 (Value.int IntKind.i64 (IntKind.wrap IntKind.i64 ((intOf v2) + x3)))))
                                                          (boolOf (at_ (tupOf v12) 1)))
                                                        Prog.fail
                                                        ((isTupV v12) && (okNs ((Nm.one Kd.str) :: ((Nm.one Kd.bool) :: [])) (tupOf v12)))))
                                                    Prog.fail
                                                    (okK Kd.str v11))))
                                                (storeT En 58 (blkOf v9) (offOf v9) (Value.agg ⟨((Value.string (strOf v7)) :: ((Value.int IntKind.i64 (IntKind.wrap IntKind.i64 ((intOf v2) + x3))) :: []))⟩)))
                                              Prog.fail
                                              (isPt v9)))
                                            (Prog.newH (Hdr.mk 2 58 Bool.false Bool.true Bool.true 0 Bool.false Bool.false []) ((Value.string (mkStr [])) :: ((Value.int IntKind.i64 (0 : Int)) :: [])) (fun z8 => (Prog.ret (itP z8))))))
                                        Prog.fail
                                        (okK Kd.str v7)))
                                      (loadT En 9 x0 0))
                                    (Bool.not (boolOf v6)))
                                  Prog.fail
                                  (okK Kd.bool v6)))
                              Prog.fail
                              (okK (Kd.int IntKind.u8) v5)))
                          (Bool.not (decide ((intOf v3) = (45 : Int)))))
                        (callP (fun v17 =>
                          (cnd
                            (gd Bool.true
                              (callP (fun v19 =>
                                (cnd
                                  (callP (fun v20 =>
                                    (Prog.call (callF En (runP En f) 32 [(Value.pointer (Option.some (Addr.mk (blkOf v19) (offOf v19) Option.none))), (Value.func (Fn.func 116) ⟨[]⟩ ⟨[]⟩)]) fun v21 =>
                                      (cnd
                                        (Prog.call (callF En (runP En f) 117 [(Value.string (strOf v21)), (Value.string (mkStr [98]))]) fun v22 =>
                                          (cnd
                                            (cnd
                                              (cnd
                                                (Prog.call (callF En (runP En f) 118 [(Value.string (strOf (at_ (tupOf v22) 0))), (Value.string (mkStr [48, 49]))]) fun v23 =>
                                                  (cnd
                                                    (cnd
                                                      (Prog.ret (Value.bool Bool.false))
                                                      (callP (fun v24 =>
                                                        (Prog.ret (Value.bool Bool.true)))
                                                        (storeT En 3 x0 1 (Value.int IntKind.i64 (IntKind.wrap IntKind.i64 ((intOf v2) + x3)))))
                                                      (beqB (Array.toList (ByteArray.data (strOf v23))) []))
                                                    Prog.fail
                                                    (okK Kd.str v23)))
                                                (callP (fun v25 =>
                                                  (Prog.ret (Value.bool Bool.true)))
                                                  (storeT En 3 x0 1 (Value.int IntKind.i64 (IntKind.wrap IntKind.i64 ((intOf v2) + x3)))))
                                                (Bool.not (beqB (Array.toList (ByteArray.data (strOf (at_ (tupOf v22) 0)))) [])))
                                              (callP (fun v26 =>
                                                (Prog.ret (Value.bool Bool.true)))
                                                (storeT En 3 x0 1 (Value.int IntKind.i64 (IntKind.wrap IntKind.i64 ((intOf v2) + x3)))))
                                              (boolOf (at_ (tupOf v22) 1)))
                                            Prog.fail
                                            ((isTupV v22) && (okNs ((Nm.one Kd.str) :: ((Nm.one Kd.bool) :: [])) (tupOf v22)))))
                                        Prog.fail
                                        (okK Kd.str v21))))
                                    (storeT En 58 (blkOf v19) (offOf v19) (Value.agg ⟨((Value.string (strOf v17)) :: ((Value.int IntKind.i64 (IntKind.wrap IntKind.i64 ((intOf v2) + x3))) :: []))⟩)))
                                  Prog.fail
                                  (isPt v19)))
                                (Prog.newH (Hdr.mk 2 58 Bool.false Bool.true Bool.true 0 Bool.false Bool.false []) ((Value.string (mkStr [])) :: ((Value.int IntKind.i64 (0 : Int)) :: [])) (fun z18 => (Prog.ret (itP z18))))))
                            Prog.fail
                            (okK Kd.str v17)))
                          (loadT En 9 x0 0))
                        (Bool.not (boolOf v4)))
                      Prog.fail
                      (okK Kd.bool v4)))
                  Prog.fail
                  (okK (Kd.int IntKind.u8) v3)))
              Prog.fail
              (okK (Kd.int IntKind.i64) v2)))
            (loadT En 3 x0 1))
          (decide (x3 = (0 : Int))))
        (decide ((intOf v1) = (32 : Int))))
      Prog.fail
      (okK (Kd.int IntKind.u8) v1))) := by kernel_rfl
theorem f122_eq (f : Nat) (x0 : Nat) : callF En (runP En (f + 1)) 122 [(Value.pointer (Option.some (Addr.mk x0 0 Option.none)))] =
  (p122_2 f x0 (0 : Int)) := by kernel_rfl
end Go.Proofs.YtmjbmbmnnephjaaGreatDoor
/- What comes of the points of a function: printed by the tool. -/
namespace Go.Proofs.YtmjbmbmnnephjaaGreatDoor
open Go Go.Ev Go.Proofs
set_option maxRecDepth 8000
set_option linter.unusedVariables false
noncomputable def p123_5 (f : Nat) (x0 : ByteArray) (x4 : Value) (x5 : ByteArray) : Prog := runP En f 123 (tmL 53 [(0, (Value.string x0)), (4, x4), (5, (Value.string x5))]) [.code (cL (cL (cI (cI (cR (cL (cR (cR (cR (cB 123)))))))))), .code (cR (cL (cI (cI (cR (cL (cR (cR (cR (cB 123)))))))))), .code (cR (cI (cI (cR (cL (cR (cR (cR (cB 123))))))))), .inLoop (cI (cI (cR (cL (cR (cR (cR (cB 123)))))))), .inBlock 0, .code (cR (cR (cR (cR (cB 123)))))] [] none
theorem p123_5_eq (f : Nat) (x0 : ByteArray) (x4 : Value) (x5 : ByteArray) : p123_5 (f + 1) x0 x4 x5 =
  (cnd
    (cnd
      (cnd
        (cnd
          (Prog.seg (buildSliceA En 65 1 ((Prod.mk 0 (Value.int IntKind.u8 (Int.ofNat (byteAt x5 0)))) :: [])) fun v12 s13 _ =>
            (Prog.seg (builtinA En Builtin.append (65 :: (65 :: [])) (x4 :: (v12 :: []))) fun v14 s15 _ =>
              (gdL 15 (writesOf s15) s15 [⟨3, writesOf s13, s13⟩]
                (cnd
                  (p123_5 f x0 v14 (mkStr (List.take ((List.length (Array.toList (ByteArray.data x5))) - 1) (List.drop 1 (Array.toList (ByteArray.data x5))))))
                  Prog.fail
                  ((Nat.ble 1 (List.length (Array.toList (ByteArray.data x5)))) && (Nat.ble (List.length (Array.toList (ByteArray.data x5))) (List.length (Array.toList (ByteArray.data x5)))))))))
          Prog.fail
          (Nat.ble 1 (List.length (Array.toList (ByteArray.data x5)))))
        (cnd
          (Prog.ret (Value.tuple ⟨((Value.string (mkStr [])) :: ((Value.bool Bool.false) :: []))⟩))
          (cnd
            (Prog.call (callF En (runP En f) 179 [(Value.string (mkStr (List.take 2 (List.drop 2 (Array.toList (ByteArray.data x5)))))), (Value.int IntKind.i64 (16 : Int)), (Value.int IntKind.i64 (8 : Int))]) fun v16 =>
              (cnd
                (binK En BinOp.neq 103 (Operand.tmp 37) (Operand.const Value.nilIface) (at_ (tupOf v16) 1) Value.nilIface fun v17 =>
                  (cnd
                    (cnd
                      (Prog.ret (Value.tuple ⟨((Value.string (mkStr [])) :: ((Value.bool Bool.false) :: []))⟩))
                      (Prog.seg (buildSliceA En 65 1 ((Prod.mk 0 (Value.int IntKind.u8 (IntKind.wrap IntKind.u8 (intOf (at_ (tupOf v16) 0))))) :: [])) fun v18 s19 _ =>
                        (Prog.seg (builtinA En Builtin.append (65 :: (65 :: [])) (x4 :: (v18 :: []))) fun v20 s21 _ =>
                          (gdL 15 (writesOf s21) s21 [⟨3, writesOf s19, s19⟩]
                            (cnd
                              (p123_5 f x0 v20 (mkStr (List.take ((List.length (Array.toList (ByteArray.data x5))) - 4) (List.drop 4 (Array.toList (ByteArray.data x5))))))
                              Prog.fail
                              ((Nat.ble 4 (List.length (Array.toList (ByteArray.data x5)))) && (Nat.ble (List.length (Array.toList (ByteArray.data x5))) (List.length (Array.toList (ByteArray.data x5)))))))))
                      (boolOf v17))
                    Prog.fail
                    (okK Kd.bool v17)))
                Prog.fail
                ((isTupV v16) && (okNs ((Nm.one (Kd.int IntKind.u64)) :: ((Nm.one Kd.raw) :: [])) (tupOf v16)))))
            Prog.fail
            (Nat.ble 4 (List.length (Array.toList (ByteArray.data x5)))))
          (decide ((Int.ofNat (List.length (Array.toList (ByteArray.data x5)))) < (4 : Int))))
        (Bool.not (decide ((Int.ofNat (byteAt x5 0)) = (92 : Int)))))
      Prog.fail
      (Nat.ble 1 (List.length (Array.toList (ByteArray.data x5)))))
    (callP (fun v70 =>
      (Prog.call (callF En (runP En f) 40 [v70]) fun v71 =>
        (cnd
          (cnd
            (Prog.ret (Value.tuple ⟨((Value.string (mkStr [])) :: ((Value.bool Bool.false) :: []))⟩))
            (callP (fun v120 =>
              (Prog.ret (Value.tuple ⟨(v120 :: ((Value.bool Bool.true) :: []))⟩)))
              (convA En 65 9 x4))
            (Bool.not (beqB (Array.toList (ByteArray.data (strOf v71))) (Array.toList (ByteArray.data x0)))))
          Prog.fail
          (okK Kd.str v71))))
      (convA En 65 9 x4))
    (Bool.not (beqB (Array.toList (ByteArray.data x5)) []))) := by kernel_rfl
theorem f123_eq (f : Nat) (x0 : ByteArray) : callF En (runP En (f + 1)) 123 [(Value.string x0)] =
  (cnd
    (Prog.ret (Value.tuple ⟨((Value.string (mkStr [])) :: ((Value.bool Bool.false) :: []))⟩))
    (cnd
      (cnd
        (p123_5 f x0 (Value.slice Option.none 0 0) (mkStr (List.take ((Int.toNat (IntKind.wrap IntKind.i64 (Int.subNatNat (List.length (Array.toList (ByteArray.data x0))) 1))) - 1) (List.drop 1 (Array.toList (ByteArray.data x0))))))
        Prog.fail
        ((Nat.ble 1 (Int.toNat (IntKind.wrap IntKind.i64 (Int.subNatNat (List.length (Array.toList (ByteArray.data x0))) 1)))) && (Nat.ble (Int.toNat (IntKind.wrap IntKind.i64 (Int.subNatNat (List.length (Array.toList (ByteArray.data x0))) 1))) (List.length (Array.toList (ByteArray.data x0))))))
      Prog.fail
      (decide ((0 : Int) ≤ (IntKind.wrap IntKind.i64 (Int.subNatNat (List.length (Array.toList (ByteArray.data x0))) 1)))))
    (decide ((Int.ofNat (List.length (Array.toList (ByteArray.data x0)))) < (2 : Int)))) := by kernel_rfl
end Go.Proofs.YtmjbmbmnnephjaaGreatDoor
/- What comes of the points of a function: printed by the tool. -/
namespace Go.Proofs.YtmjbmbmnnephjaaGreatDoor
open Go Go.Ev Go.Proofs
set_option maxRecDepth 8000
set_option linter.unusedVariables false
theorem f124_eq (f : Nat) (x0 : ByteArray) (x1 : Int) : callF En (runP En (f + 1)) 124 [(Value.string x0), (Value.int IntKind.u8 x1)] =
  (Prog.call (callF En (runP En f) 180 [(Value.string x0), (Value.int IntKind.u8 x1)]) fun v2 =>
    (cnd
      (Prog.ret (Value.int IntKind.i64 (intOf v2)))
      Prog.fail
      (okK (Kd.int IntKind.i64) v2))) := by kernel_rfl
end Go.Proofs.YtmjbmbmnnephjaaGreatDoor
/- What comes of the points of a function: printed by the tool. -/
namespace Go.Proofs.YtmjbmbmnnephjaaGreatDoor
open Go Go.Ev Go.Proofs
set_option maxRecDepth 8000
set_option linter.unusedVariables false
theorem f125_eq (f : Nat) (x0 : Int) : callF En (runP En (f + 1)) 125 [(Value.int IntKind.i64 x0)] =
  (cnd
    (cnd
      (Prog.ret (Value.int IntKind.i64 (IntKind.wrap IntKind.i64 ((0 : Int) + (Int.neg x0)))))
      (Prog.ret (Value.int IntKind.i64 x0))
      (decide (x0 ≥ (-5 : Int))))
    (Prog.ret (Value.int IntKind.i64 x0))
    (decide (x0 < (0 : Int)))) := by kernel_rfl
end Go.Proofs.YtmjbmbmnnephjaaGreatDoor
/- What comes of the points of a function: printed by the tool. -/
namespace Go.Proofs.YtmjbmbmnnephjaaGreatDoor
open Go Go.Ev Go.Proofs
set_option maxRecDepth 8000
set_option linter.unusedVariables false
noncomputable def p126_3 (f : Nat) (x1 : Nat) (x1o : Nat) (x3 : Bool) (x4 : Int) : Prog := runP En f 126 (tmL 46 [(1, (Value.pointer (Option.some (Addr.mk x1 x1o Option.none)))), (3, (Value.bool x3)), (4, (Value.int IntKind.i64 x4))]) [.code (cL (cL (cI (cI (cR (cL (cR (cR (cB 126))))))))), .code (cR (cL (cI (cI (cR (cL (cR (cR (cB 126))))))))), .code (cR (cI (cI (cR (cL (cR (cR (cB 126)))))))), .inLoop (cI (cI (cR (cL (cR (cR (cB 126))))))), .inBlock 0, .code (cR (cR (cR (cB 126))))] [] none
noncomputable def p126_4 (f : Nat) (x1 : Nat) (x1o : Nat) (x3 : Bool) (x4 : Int) : Prog := runP En f 126 (tmL 46 [(1, (Value.pointer (Option.some (Addr.mk x1 x1o Option.none)))), (3, (Value.bool x3)), (4, (Value.int IntKind.i64 x4))]) [.code (cR (cR (cI (cI (cR (cL (cR (cR (cB 126))))))))), .inLoop (cI (cI (cR (cL (cR (cR (cB 126))))))), .inBlock 0, .code (cR (cR (cR (cB 126))))] [] none
theorem p126_3_eq (f : Nat) (x1 : Nat) (x1o : Nat) (x3 : Bool) (x4 : Int) : p126_3 (f + 1) x1 x1o x3 x4 =
  (callP (fun v14 =>
    (cnd
      (cnd
        (callP (fun v15 =>
          (cnd
            (cnd
              (cnd
                (cnd
                  (cnd
                    (cnd
                      (cnd
                        (Prog.ret (Value.bool Bool.false))
                        (Prog.seg (loadT En 30 x1 (x1o + 3)) fun v16 s17 _ =>
                          (cnd
                            (cnd
                              (cnd
                                (cnd
                                  (cnd
                                    (Prog.seg (callF En (runP En f) 14 [(Value.agg ⟨((Value.int IntKind.i64 (intOf (at_ (List.take 4 (Array.toList (Value.cells (at_ (elems v16) (Int.toNat x4))))) 0))) :: ((lstV (elems (at_ (List.take 4 (Array.toList (Value.cells (at_ (elems v16) (Int.toNat x4))))) 1))) :: ((lstV (elems (at_ (List.take 4 (Array.toList (Value.cells (at_ (elems v16) (Int.toNat x4))))) 2))) :: ((lstV (elems (at_ (List.take 4 (Array.toList (Value.cells (at_ (elems v16) (Int.toNat x4))))) 3))) :: []))))⟩)]) fun v18 s19 _ =>
                                      (gdL 31 (writesOf s19) s19 [⟨1, writesOf s17, s17⟩]
                                        (cnd
                                          (cnd
                                            (p126_4 f x1 x1o Bool.false x4)
                                            (Prog.seg (loadT En 30 x1 (x1o + 3)) fun v20 s21 _ =>
                                              (gdL 511 (writesOf s21) s21 [⟨5, writesOf s19, s19⟩, ⟨1, writesOf s17, s17⟩]
                                                (cnd
                                                  (cnd
                                                    (cnd
                                                      (cnd
                                                        (cnd
                                                          (cnd
                                                            (Prog.seg (loadT En 30 x1 (x1o + 3)) fun v22 s23 _ =>
                                                              (gdL 16639 (writesOf s23) s23 [⟨9, writesOf s21, s21⟩, ⟨5, writesOf s19, s19⟩, ⟨1, writesOf s17, s17⟩]
                                                                (cnd
                                                                  (cnd
                                                                    (cnd
                                                                      (cnd
                                                                        (cnd
                                                                          (cnd
                                                                            (p126_4 f x1 x1o Bool.false x4)
                                                                            (p126_4 f x1 x1o x3 x4)
                                                                            (Bool.not (decide ((intOf (List.headD (Array.toList (Value.cells (at_ (elems v20) (Int.toNat x4)))) (Value.tuple ⟨[]⟩))) = (intOf (List.headD (Array.toList (Value.cells (at_ (elems v22) 0))) (Value.tuple ⟨[]⟩)))))))
                                                                          Prog.fail
                                                                          (okK (Kd.int IntKind.i64) (List.headD (Array.toList (Value.cells (at_ (elems v22) 0))) (Value.tuple ⟨[]⟩))))
                                                                        Prog.fail
                                                                        (Nat.ble 1 (List.length (Array.toList (Value.cells (at_ (elems v22) 0))))))
                                                                      Prog.fail
                                                                      (Nat.ble 1 (List.length (Array.toList (Value.cells (at_ (elems v22) 0))))))
                                                                    Prog.fail
                                                                    (((Nat.ble 1 (List.length (elems v22))) && Bool.true) && (hdOk 4 (elems v22))))
                                                                  Prog.fail
                                                                  (isLst v22))))
                                                            Prog.fail
                                                            (okK (Kd.int IntKind.i64) (List.headD (Array.toList (Value.cells (at_ (elems v20) (Int.toNat x4)))) (Value.tuple ⟨[]⟩))))
                                                          Prog.fail
                                                          (Nat.ble 1 (List.length (Array.toList (Value.cells (at_ (elems v20) (Int.toNat x4)))))))
                                                        Prog.fail
                                                        (Nat.ble 1 (List.length (Array.toList (Value.cells (at_ (elems v20) (Int.toNat x4)))))))
                                                      Prog.fail
                                                      (((Nat.ble (Nat.succ (Int.toNat x4)) (List.length (elems v20))) && Bool.true) && (hdOk 4 (elems v20))))
                                                    Prog.fail
                                                    (decide ((0 : Int) ≤ x4)))
                                                  Prog.fail
                                                  (isLst v20))))
                                            (Bool.not (boolOf v18)))
                                          Prog.fail
                                          (okK Kd.bool v18))))
                                    Prog.fail
                                    (okKs ((Kd.int IntKind.i64) :: (Kd.lst :: (Kd.lst :: (Kd.lst :: [])))) (List.take 4 (Array.toList (Value.cells (at_ (elems v16) (Int.toNat x4)))))))
                                  Prog.fail
                                  (Nat.ble 4 (List.length (Array.toList (Value.cells (at_ (elems v16) (Int.toNat x4)))))))
                                Prog.fail
                                (((Nat.ble (Nat.succ (Int.toNat x4)) (List.length (elems v16))) && Bool.true) && (hdOk 4 (elems v16))))
                              Prog.fail
                              (decide ((0 : Int) ≤ x4)))
                            Prog.fail
                            (isLst v16)))
                        (decide ((intOf (List.headD (Array.toList (Value.cells (at_ (elems v15) (Int.toNat x4)))) (Value.tuple ⟨[]⟩))) = (101 : Int))))
                      Prog.fail
                      (okK (Kd.int IntKind.i64) (List.headD (Array.toList (Value.cells (at_ (elems v15) (Int.toNat x4)))) (Value.tuple ⟨[]⟩))))
                    Prog.fail
                    (Nat.ble 1 (List.length (Array.toList (Value.cells (at_ (elems v15) (Int.toNat x4)))))))
                  Prog.fail
                  (Nat.ble 1 (List.length (Array.toList (Value.cells (at_ (elems v15) (Int.toNat x4)))))))
                Prog.fail
                (((Nat.ble (Nat.succ (Int.toNat x4)) (List.length (elems v15))) && Bool.true) && (hdOk 4 (elems v15))))
              Prog.fail
              (decide ((0 : Int) ≤ x4)))
            Prog.fail
            (isLst v15)))
          (loadT En 30 x1 (x1o + 3)))
        (Prog.ret (Value.bool (Bool.not x3)))
        (decide (x4 < (Int.ofNat (List.length (elems v14))))))
      Prog.fail
      (isLst v14)))
    (loadT En 30 x1 (x1o + 3))) := by kernel_rfl
theorem p126_4_eq (f : Nat) (x1 : Nat) (x1o : Nat) (x3 : Bool) (x4 : Int) : p126_4 (f + 1) x1 x1o x3 x4 =
  (p126_3 f x1 x1o x3 (IntKind.wrap IntKind.i64 (x4 + (1 : Int)))) := by kernel_rfl
theorem f126_eq (f : Nat) (x0_0 : Int) (x0_1 : List Value) (x0_2 : List Value) (x0_3 : List Value) : callF En (runP En (f + 1)) 126 [(Value.agg ⟨((Value.int IntKind.i64 x0_0) :: ((lstV x0_1) :: ((lstV x0_2) :: ((lstV x0_3) :: []))))⟩)] =
  (gd Bool.true
    (callP (fun v25 =>
      (cnd
        (callP (fun v26 =>
          (cnd
            (p126_3 f (blkOf v25) (offOf v25) (decide ((Int.ofNat (List.length (elems v26))) > (0 : Int))) (0 : Int))
            Prog.fail
            (isLst v26)))
          (loadT En 30 (blkOf v25) ((offOf v25) + 3)))
        Prog.fail
        (isPt v25)))
      (Prog.newH (Hdr.mk 4 32 Bool.false Bool.true Bool.true 0 Bool.false Bool.false []) ((Value.int IntKind.i64 x0_0) :: ((lstV x0_1) :: ((lstV x0_2) :: ((lstV x0_3) :: [])))) (fun z24 => (Prog.ret (itP z24)))))) := by kernel_rfl
end Go.Proofs.YtmjbmbmnnephjaaGreatDoor
/- What comes of the points of a function: printed by the tool. -/
namespace Go.Proofs.YtmjbmbmnnephjaaGreatDoor
open Go Go.Ev Go.Proofs
set_option maxRecDepth 8000
set_option linter.unusedVariables false
noncomputable def p127_4 (f : Nat) (x1 : Nat) (x1o : Nat) (x3 : Int) : Prog := runP En f 127 (tmL 65 [(1, (Value.pointer (Option.some (Addr.mk x1 x1o Option.none)))), (3, (Value.int IntKind.i64 x3))]) [.code (cL (cL (cI (cI (cR (cL (cR (cR (cB 127))))))))), .code (cR (cL (cI (cI (cR (cL (cR (cR (cB 127))))))))), .code (cR (cI (cI (cR (cL (cR (cR (cB 127)))))))), .inLoop (cI (cI (cR (cL (cR (cR (cB 127))))))), .inBlock 0, .code (cR (cR (cR (cB 127))))] [] none
noncomputable def p127_9 (f : Nat) (x1 : Nat) (x1o : Nat) (x3 : Int) (x4 : Int) : Prog := runP En f 127 (tmL 65 [(1, (Value.pointer (Option.some (Addr.mk x1 x1o Option.none)))), (3, (Value.int IntKind.i64 x3)), (4, (Value.int IntKind.i64 x4))]) [.code (cL (cL (cI (cI (cR (cR (cI (cL (cR (cI (cI (cR (cL (cR (cR (cB 127)))))))))))))))), .code (cR (cL (cI (cI (cR (cR (cI (cL (cR (cI (cI (cR (cL (cR (cR (cB 127)))))))))))))))), .code (cR (cI (cI (cR (cR (cI (cL (cR (cI (cI (cR (cL (cR (cR (cB 127))))))))))))))), .inLoop (cI (cI (cR (cR (cI (cL (cR (cI (cI (cR (cL (cR (cR (cB 127)))))))))))))), .inBlock 2, .inBlock 1, .code (cR (cR (cI (cI (cR (cL (cR (cR (cB 127))))))))), .inLoop (cI (cI (cR (cL (cR (cR (cB 127))))))), .inBlock 0, .code (cR (cR (cR (cB 127))))] [] none
theorem p127_4_eq (f : Nat) (x1 : Nat) (x1o : Nat) (x3 : Int) : p127_4 (f + 1) x1 x1o x3 =
  (callP (fun v16 =>
    (cnd
      (cnd
        (callP (fun v17 =>
          (cnd
            (cnd
              (cnd
                (cnd
                  (cnd
                    (cnd
                      (Prog.ret (Value.bool Bool.false))
                      (callP (fun v18 =>
                        (cnd
                          (cnd
                            (cnd
                              (cnd
                                (cnd
                                  (Prog.call (callF En (runP En f) 129 [(Value.string (strOf (List.headD (Array.toList (Value.cells (at_ (elems v18) (Int.toNat x3)))) (Value.tuple ⟨[]⟩))))]) fun v19 =>
                                    (cnd
                                      (cnd
                                        (Prog.ret (Value.bool Bool.false))
                                        (callP (fun v20 =>
                                          (cnd
                                            (cnd
                                              (cnd
                                                (cnd
                                                  (cnd
                                                    (Prog.call (callF En (runP En f) 128 [(Value.agg ⟨((Value.int IntKind.i64 (intOf (at_ (List.take 4 (Array.toList (Value.cells (at_ (elems v20) (Int.toNat x3))))) 0))) :: ((lstV (elems (at_ (List.take 4 (Array.toList (Value.cells (at_ (elems v20) (Int.toNat x3))))) 1))) :: ((lstV (elems (at_ (List.take 4 (Array.toList (Value.cells (at_ (elems v20) (Int.toNat x3))))) 2))) :: ((lstV (elems (at_ (List.take 4 (Array.toList (Value.cells (at_ (elems v20) (Int.toNat x3))))) 3))) :: []))))⟩)]) fun v21 =>
                                                      (cnd
                                                        (cnd
                                                          (Prog.ret (Value.bool Bool.false))
                                                          (p127_9 f x1 x1o x3 (0 : Int))
                                                          (Bool.not (boolOf v21)))
                                                        Prog.fail
                                                        (okK Kd.bool v21)))
                                                    Prog.fail
                                                    (okKs ((Kd.int IntKind.i64) :: (Kd.lst :: (Kd.lst :: (Kd.lst :: [])))) (List.take 4 (Array.toList (Value.cells (at_ (elems v20) (Int.toNat x3)))))))
                                                  Prog.fail
                                                  (Nat.ble 4 (List.length (Array.toList (Value.cells (at_ (elems v20) (Int.toNat x3)))))))
                                                Prog.fail
                                                (((Nat.ble (Nat.succ (Int.toNat x3)) (List.length (elems v20))) && Bool.true) && (hdOk 4 (elems v20))))
                                              Prog.fail
                                              (decide ((0 : Int) ≤ x3)))
                                            Prog.fail
                                            (isLst v20)))
                                          (loadT En 30 x1 (x1o + 3)))
                                        (Bool.not (boolOf v19)))
                                      Prog.fail
                                      (okK Kd.bool v19)))
                                  Prog.fail
                                  (okK Kd.str (List.headD (Array.toList (Value.cells (at_ (elems v18) (Int.toNat x3)))) (Value.tuple ⟨[]⟩))))
                                Prog.fail
                                (Nat.ble 1 (List.length (Array.toList (Value.cells (at_ (elems v18) (Int.toNat x3)))))))
                              Prog.fail
                              (((Nat.ble (Nat.succ (Int.toNat x3)) (List.length (elems v18))) && Bool.true) && (hdOk 1 (elems v18))))
                            Prog.fail
                            (decide ((0 : Int) ≤ x3)))
                          Prog.fail
                          (isLst v18)))
                        (loadT En 29 x1 (x1o + 2)))
                      (beqB (Array.toList (ByteArray.data (strOf (List.headD (Array.toList (Value.cells (at_ (elems v17) (Int.toNat x3)))) (Value.tuple ⟨[]⟩))))) []))
                    Prog.fail
                    (okK Kd.str (List.headD (Array.toList (Value.cells (at_ (elems v17) (Int.toNat x3)))) (Value.tuple ⟨[]⟩))))
                  Prog.fail
                  (Nat.ble 1 (List.length (Array.toList (Value.cells (at_ (elems v17) (Int.toNat x3)))))))
                Prog.fail
                (((Nat.ble (Nat.succ (Int.toNat x3)) (List.length (elems v17))) && Bool.true) && (hdOk 1 (elems v17))))
              Prog.fail
              (decide ((0 : Int) ≤ x3)))
            Prog.fail
            (isLst v17)))
          (loadT En 29 x1 (x1o + 2)))
        (Prog.ret (Value.bool Bool.true))
        (decide (x3 < (Int.ofNat (List.length (elems v16))))))
      Prog.fail
      (isLst v16)))
    (loadT En 29 x1 (x1o + 2))) := by kernel_rfl
theorem p127_9_eq (f : Nat) (x1 : Nat) (x1o : Nat) (x3 : Int) (x4 : Int) : p127_9 (f + 1) x1 x1o x3 x4 =
  (cnd
    (Prog.seg (loadT En 29 x1 (x1o + 2)) fun v22 s23 _ =>
      (cnd
        (cnd
          (cnd
            (cnd
              (cnd
                (Prog.seg (loadT En 29 x1 (x1o + 2)) fun v24 s25 _ =>
                  (gdL 32 (writesOf s25) s25 [⟨1, writesOf s23, s23⟩]
                    (cnd
                      (cnd
                        (cnd
                          (cnd
                            (cnd
                              (cnd
                                (Prog.ret (Value.bool Bool.false))
                                (p127_9 f x1 x1o x3 (IntKind.wrap IntKind.i64 (x4 + (1 : Int))))
                                (beqB (Array.toList (ByteArray.data (strOf (List.headD (Array.toList (Value.cells (at_ (elems v22) (Int.toNat x4)))) (Value.tuple ⟨[]⟩))))) (Array.toList (ByteArray.data (strOf (List.headD (Array.toList (Value.cells (at_ (elems v24) (Int.toNat x3)))) (Value.tuple ⟨[]⟩)))))))
                              Prog.fail
                              (okK Kd.str (List.headD (Array.toList (Value.cells (at_ (elems v24) (Int.toNat x3)))) (Value.tuple ⟨[]⟩))))
                            Prog.fail
                            (Nat.ble 1 (List.length (Array.toList (Value.cells (at_ (elems v24) (Int.toNat x3)))))))
                          Prog.fail
                          (((Nat.ble (Nat.succ (Int.toNat x3)) (List.length (elems v24))) && Bool.true) && (hdOk 1 (elems v24))))
                        Prog.fail
                        (decide ((0 : Int) ≤ x3)))
                      Prog.fail
                      (isLst v24))))
                Prog.fail
                (okK Kd.str (List.headD (Array.toList (Value.cells (at_ (elems v22) (Int.toNat x4)))) (Value.tuple ⟨[]⟩))))
              Prog.fail
              (Nat.ble 1 (List.length (Array.toList (Value.cells (at_ (elems v22) (Int.toNat x4)))))))
            Prog.fail
            (((Nat.ble (Nat.succ (Int.toNat x4)) (List.length (elems v22))) && Bool.true) && (hdOk 1 (elems v22))))
          Prog.fail
          (decide ((0 : Int) ≤ x4)))
        Prog.fail
        (isLst v22)))
    (p127_4 f x1 x1o (IntKind.wrap IntKind.i64 (x3 + (1 : Int))))
    (decide (x4 < x3))) := by kernel_rfl
theorem f127_eq (f : Nat) (x0_0 : Int) (x0_1 : List Value) (x0_2 : List Value) (x0_3 : List Value) : callF En (runP En (f + 1)) 127 [(Value.agg ⟨((Value.int IntKind.i64 x0_0) :: ((lstV x0_1) :: ((lstV x0_2) :: ((lstV x0_3) :: []))))⟩)] =
  (gd Bool.true
    (callP (fun v27 =>
      (cnd
        (callP (fun v28 =>
          (cnd
            (cnd
              (Prog.ret (Value.bool Bool.false))
              (callP (fun v29 =>
                (cnd
                  (callP (fun v30 =>
                    (cnd
                      (cnd
                        (Prog.ret (Value.bool Bool.false))
                        (p127_4 f (blkOf v27) (offOf v27) (0 : Int))
                        (Bool.not (decide ((Int.ofNat (List.length (elems v29))) = (Int.ofNat (List.length (elems v30)))))))
                      Prog.fail
                      (isLst v30)))
                    (loadT En 30 (blkOf v27) ((offOf v27) + 3)))
                  Prog.fail
                  (isLst v29)))
                (loadT En 29 (blkOf v27) ((offOf v27) + 2)))
              (decide ((Int.ofNat (List.length (elems v28))) = (0 : Int))))
            Prog.fail
            (isLst v28)))
          (loadT En 29 (blkOf v27) ((offOf v27) + 2)))
        Prog.fail
        (isPt v27)))
      (Prog.newH (Hdr.mk 4 32 Bool.false Bool.true Bool.true 0 Bool.false Bool.false []) ((Value.int IntKind.i64 x0_0) :: ((lstV x0_1) :: ((lstV x0_2) :: ((lstV x0_3) :: [])))) (fun z26 => (Prog.ret (itP z26)))))) := by kernel_rfl
end Go.Proofs.YtmjbmbmnnephjaaGreatDoor
/- What comes of the points of a function: printed by the tool. -/
namespace Go.Proofs.YtmjbmbmnnephjaaGreatDoor
open Go Go.Ev Go.Proofs
set_option maxRecDepth 8000
set_option linter.unusedVariables false
theorem f128_eq (f : Nat) (x0_0 : Int) (x0_1 : List Value) (x0_2 : List Value) (x0_3 : List Value) : callF En (runP En (f + 1)) 128 [(Value.agg ⟨((Value.int IntKind.i64 x0_0) :: ((lstV x0_1) :: ((lstV x0_2) :: ((lstV x0_3) :: []))))⟩)] =
  (gd Bool.true
    (callP (fun v7 =>
      (cnd
        (callP (fun v8 =>
          (cnd
            (Prog.call (callF En (runP En f) 15 [(Value.agg ⟨((Value.int IntKind.i64 (intOf (at_ (aggOf v8) 0))) :: ((lstV (elems (at_ (aggOf v8) 1))) :: ((lstV (elems (at_ (aggOf v8) 2))) :: ((lstV (elems (at_ (aggOf v8) 3))) :: []))))⟩)]) fun v9 =>
              (cnd
                (cnd
                  (Prog.ret (Value.bool Bool.true))
                  (callP (fun v10 =>
                    (cnd
                      (Prog.ret (Value.bool (decide ((intOf v10) = (0 : Int)))))
                      Prog.fail
                      (okK (Kd.int IntKind.i64) v10)))
                    (loadT En 3 (blkOf v7) ((offOf v7) + 0)))
                  (boolOf v9))
                Prog.fail
                (okK Kd.bool v9)))
            Prog.fail
            ((isAggV v8) && (okKs ((Kd.int IntKind.i64) :: (Kd.lst :: (Kd.lst :: (Kd.lst :: [])))) (aggOf v8)))))
          (loadT En 32 (blkOf v7) (offOf v7)))
        Prog.fail
        (isPt v7)))
      (Prog.newH (Hdr.mk 4 32 Bool.false Bool.true Bool.true 0 Bool.false Bool.false []) ((Value.int IntKind.i64 x0_0) :: ((lstV x0_1) :: ((lstV x0_2) :: ((lstV x0_3) :: [])))) (fun z6 => (Prog.ret (itP z6)))))) := by kernel_rfl
end Go.Proofs.YtmjbmbmnnephjaaGreatDoor
/- What comes of the points of a function: printed by the tool. -/
namespace Go.Proofs.YtmjbmbmnnephjaaGreatDoor
open Go Go.Ev Go.Proofs
set_option maxRecDepth 8000
set_option linter.unusedVariables false
noncomputable def p129_2 (f : Nat) (x0 : ByteArray) (x3 : Int) : Prog := runP En f 129 (tmL 14 [(0, (Value.string x0)), (3, (Value.int IntKind.i64 x3))]) [.code (cL (cL (cI (cI (cR (cL (cR (cB 129)))))))), .code (cR (cL (cI (cI (cR (cL (cR (cB 129)))))))), .code (cR (cI (cI (cR (cL (cR (cB 129))))))), .inLoop (cI (cI (cR (cL (cR (cB 129)))))), .inBlock 0, .code (cR (cR (cB 129)))] [] none
theorem p129_2_eq (f : Nat) (x0 : ByteArray) (x3 : Int) : p129_2 (f + 1) x0 x3 =
  (cnd
    (cnd
      (cnd
        (cnd
          (Prog.ret (Value.bool Bool.false))
          (p129_2 f x0 (IntKind.wrap IntKind.i64 (x3 + (1 : Int))))
          (decide ((Int.ofNat (byteAt x0 (Int.toNat x3))) = (0 : Int))))
        Prog.fail
        (Nat.ble (Nat.succ (Int.toNat x3)) (List.length (Array.toList (ByteArray.data x0)))))
      Prog.fail
      (decide ((0 : Int) ≤ x3)))
    (Prog.ret (Value.bool Bool.true))
    (decide (x3 < (Int.ofNat (List.length (Array.toList (ByteArray.data x0))))))) := by kernel_rfl
theorem f129_eq (f : Nat) (x0 : ByteArray) : callF En (runP En (f + 1)) 129 [(Value.string x0)] =
  (p129_2 f x0 (0 : Int)) := by kernel_rfl
end Go.Proofs.YtmjbmbmnnephjaaGreatDoor
/- What comes of the points of a function: printed by the tool. -/
namespace Go.Proofs.YtmjbmbmnnephjaaGreatDoor
open Go Go.Ev Go.Proofs
set_option maxRecDepth 8000
set_option linter.unusedVariables false
theorem f136_eq (f : Nat) (x0 : ByteArray) (x1 : ByteArray) : callF En (runP En (f + 1)) 136 [(Value.string x0), (Value.string x1)] =
  (Prog.call (callF En (runP En f) 184 [(Value.string x0), (Value.string x1)]) fun v2 =>
    (cnd
      (Prog.ret (Value.tuple ⟨((Value.string (strOf (at_ (tupOf v2) 0))) :: ((Value.bool (boolOf (at_ (tupOf v2) 1))) :: []))⟩))
      Prog.fail
      ((isTupV v2) && (okNs ((Nm.one Kd.str) :: ((Nm.one Kd.bool) :: [])) (tupOf v2))))) := by kernel_rfl
end Go.Proofs.YtmjbmbmnnephjaaGreatDoor
/- What comes of the points of a function: printed by the tool. -/
namespace Go.Proofs.YtmjbmbmnnephjaaGreatDoor
open Go Go.Ev Go.Proofs
set_option maxRecDepth 8000
set_option linter.unusedVariables false
theorem f141_eq (f : Nat) (x0 : ByteArray) (x1 : ByteArray) : callF En (runP En (f + 1)) 141 [(Value.string x0), (Value.string x1)] =
  (cnd
    (cnd
      (Prog.ret (Value.bool (beqB (List.take ((List.length (Array.toList (ByteArray.data x1))) - 0) (Array.toList (ByteArray.data x0))) (Array.toList (ByteArray.data x1)))))
      Prog.fail
      ((Nat.ble 0 (List.length (Array.toList (ByteArray.data x1)))) && (Nat.ble (List.length (Array.toList (ByteArray.data x1))) (List.length (Array.toList (ByteArray.data x0))))))
    (Prog.ret (Value.bool Bool.false))
    (decide ((Int.ofNat (List.length (Array.toList (ByteArray.data x0)))) ≥ (Int.ofNat (List.length (Array.toList (ByteArray.data x1))))))) := by kernel_rfl
end Go.Proofs.YtmjbmbmnnephjaaGreatDoor
/- What comes of the points of a function: printed by the tool. -/
namespace Go.Proofs.YtmjbmbmnnephjaaGreatDoor
open Go Go.Ev Go.Proofs
set_option maxRecDepth 8000
set_option linter.unusedVariables false
theorem f171_eq (f : Nat) (x0 : Nat) (x1 : Int) : callF En (runP En (f + 1)) 171 [(Value.pointer (Option.some (Addr.mk x0 0 Option.none))), (Value.int IntKind.u8 x1)] =
  (cnd
    (cnd
      (callP (fun v2 =>
        (cnd
          (Prog.ret (Value.bool (boolOf v2)))
          Prog.fail
          (okK Kd.bool v2)))
        (loadT En 4 x0 (0 + ((Int.toNat x1) * 1))))
      Prog.fail
      ((Nat.ble (Nat.succ (Int.toNat x1)) 256) && Bool.true))
    Prog.fail
    (decide ((0 : Int) ≤ x1))) := by kernel_rfl
end Go.Proofs.YtmjbmbmnnephjaaGreatDoor
/- What comes of the points of a function: printed by the tool. -/
namespace Go.Proofs.YtmjbmbmnnephjaaGreatDoor
open Go Go.Ev Go.Proofs
set_option maxRecDepth 8000
set_option linter.unusedVariables false
theorem f174_eq (f : Nat) (x0 : ByteArray) (x1 : ByteArray) : callF En (runP En (f + 1)) 174 [(Value.string x0), (Value.string x1)] =
  (Prog.call (callF En (runP En f) 211 [(Value.string x0), (Value.string x1)]) fun v2 =>
    (cnd
      (cnd
        (Prog.ret (Value.tuple ⟨((Value.string x0) :: ((Value.bool Bool.false) :: []))⟩))
        (cnd
          (cnd
            (Prog.ret (Value.tuple ⟨((Value.string (mkStr (List.take ((Int.toNat (IntKind.wrap IntKind.i64 ((Int.ofNat (List.length (Array.toList (ByteArray.data x0)))) + (Int.negOfNat (List.length (Array.toList (ByteArray.data x1))))))) - 0) (Array.toList (ByteArray.data x0))))) :: ((Value.bool Bool.true) :: []))⟩))
            Prog.fail
            ((Nat.ble 0 (Int.toNat (IntKind.wrap IntKind.i64 ((Int.ofNat (List.length (Array.toList (ByteArray.data x0)))) + (Int.negOfNat (List.length (Array.toList (ByteArray.data x1)))))))) && (Nat.ble (Int.toNat (IntKind.wrap IntKind.i64 ((Int.ofNat (List.length (Array.toList (ByteArray.data x0)))) + (Int.negOfNat (List.length (Array.toList (ByteArray.data x1))))))) (List.length (Array.toList (ByteArray.data x0))))))
          Prog.fail
          (decide ((0 : Int) ≤ (IntKind.wrap IntKind.i64 ((Int.ofNat (List.length (Array.toList (ByteArray.data x0)))) + (Int.negOfNat (List.length (Array.toList (ByteArray.data x1)))))))))
        (Bool.not (boolOf v2)))
      Prog.fail
      (okK Kd.bool v2))) := by kernel_rfl
end Go.Proofs.YtmjbmbmnnephjaaGreatDoor
/- What comes of the points of a function: printed by the tool. -/
namespace Go.Proofs.YtmjbmbmnnephjaaGreatDoor
open Go Go.Ev Go.Proofs
set_option maxRecDepth 8000
set_option linter.unusedVariables false
noncomputable def p175_1 (f : Nat) (x0 : ByteArray) (x1 : Int) : Prog := runP En f 175 (tmL 17 [(0, (Value.string x0)), (1, (Value.int IntKind.u8 x1))]) [.code (cL (cL (cI (cI (cL (cR (cB 175))))))), .code (cR (cL (cI (cI (cL (cR (cB 175))))))), .code (cR (cI (cI (cL (cR (cB 175)))))), .inLoop (cI (cI (cL (cR (cB 175))))), .inBlock 0, .code (cR (cR (cB 175)))] [] none
theorem p175_1_eq (f : Nat) (x0 : ByteArray) (x1 : Int) : p175_1 (f + 1) x0 x1 =
  (cnd
    (cnd
      (cnd
        (cnd
          (p175_1 f (mkStr (List.take ((List.length (Array.toList (ByteArray.data x0))) - 1) (List.drop 1 (Array.toList (ByteArray.data x0))))) x1)
          Prog.fail
          ((Nat.ble 1 (List.length (Array.toList (ByteArray.data x0)))) && (Nat.ble (List.length (Array.toList (ByteArray.data x0))) (List.length (Array.toList (ByteArray.data x0))))))
        (Prog.ret (Value.string x0))
        (decide ((Int.ofNat (byteAt x0 0)) = x1)))
      Prog.fail
      (Nat.ble 1 (List.length (Array.toList (ByteArray.data x0)))))
    (Prog.ret (Value.string x0))
    (decide ((Int.ofNat (List.length (Array.toList (ByteArray.data x0)))) > (0 : Int)))) := by kernel_rfl
theorem f175_eq (f : Nat) (x0 : ByteArray) (x1 : Int) : callF En (runP En (f + 1)) 175 [(Value.string x0), (Value.int IntKind.u8 x1)] =
  (p175_1 f x0 x1) := by kernel_rfl
end Go.Proofs.YtmjbmbmnnephjaaGreatDoor
/- What comes of the points of a function: printed by the tool. -/
namespace Go.Proofs.YtmjbmbmnnephjaaGreatDoor
open Go Go.Ev Go.Proofs
set_option maxRecDepth 8000
set_option linter.unusedVariables false
noncomputable def p176_1 (f : Nat) (x0 : ByteArray) (x1 : Nat) : Prog := runP En f 176 (tmL 16 [(0, (Value.string x0)), (1, (Value.pointer (Option.some (Addr.mk x1 0 Option.none))))]) [.code (cL (cL (cI (cI (cL (cR (cB 176))))))), .code (cR (cL (cI (cI (cL (cR (cB 176))))))), .code (cR (cI (cI (cL (cR (cB 176)))))), .inLoop (cI (cI (cL (cR (cB 176))))), .inBlock 0, .code (cR (cR (cB 176)))] [] none
noncomputable def p176_4 (f : Nat) (x0 : ByteArray) : Prog := runP En f 176 (tmL 16 [(0, (Value.string x0))]) [.code (cL (cR (cR (cB 176)))), .code (cR (cR (cR (cB 176))))] [] none
theorem p176_1_eq (f : Nat) (x0 : ByteArray) (x1 : Nat) : p176_1 (f + 1) x0 x1 =
  (cnd
    (cnd
      (Prog.call (callF En (runP En f) 171 [(Value.pointer (Option.some (Addr.mk x1 0 Option.none))), (Value.int IntKind.u8 (Int.ofNat (byteAt x0 0)))]) fun v2 =>
        (cnd
          (cnd
            (p176_4 f x0)
            (cnd
              (p176_1 f (mkStr (List.take ((List.length (Array.toList (ByteArray.data x0))) - 1) (List.drop 1 (Array.toList (ByteArray.data x0))))) x1)
              Prog.fail
              ((Nat.ble 1 (List.length (Array.toList (ByteArray.data x0)))) && (Nat.ble (List.length (Array.toList (ByteArray.data x0))) (List.length (Array.toList (ByteArray.data x0))))))
            (Bool.not (boolOf v2)))
          Prog.fail
          (okK Kd.bool v2)))
      Prog.fail
      (Nat.ble 1 (List.length (Array.toList (ByteArray.data x0)))))
    (p176_4 f x0)
    (decide ((Int.ofNat (List.length (Array.toList (ByteArray.data x0)))) > (0 : Int)))) := by kernel_rfl
theorem p176_4_eq (f : Nat) (x0 : ByteArray) : p176_4 (f + 1) x0 =
  (Prog.ret (Value.string x0)) := by kernel_rfl
theorem f176_eq (f : Nat) (x0 : ByteArray) (x1 : Nat) : callF En (runP En (f + 1)) 176 [(Value.string x0), (Value.pointer (Option.some (Addr.mk x1 0 Option.none)))] =
  (p176_1 f x0 x1) := by kernel_rfl
end Go.Proofs.YtmjbmbmnnephjaaGreatDoor
/- What comes of the points of a function: printed by the tool. -/
namespace Go.Proofs.YtmjbmbmnnephjaaGreatDoor
open Go Go.Ev Go.Proofs
set_option maxRecDepth 8000
set_option linter.unusedVariables false
theorem f178_eq (f : Nat) (x0 : ByteArray) (x1 : ByteArray) : callF En (runP En (f + 1)) 178 [(Value.string x0), (Value.string x1)] =
  (Prog.call (callF En (runP En f) 212 [(Value.string x0), (Value.string x1)]) fun v2 =>
    (cnd
      (Prog.ret (Value.tuple ⟨((Value.string (strOf (at_ (tupOf v2) 0))) :: ((Value.string (strOf (at_ (tupOf v2) 1))) :: ((Value.bool (boolOf (at_ (tupOf v2) 2))) :: [])))⟩))
      Prog.fail
      ((isTupV v2) && (okNs ((Nm.one Kd.str) :: ((Nm.one Kd.str) :: ((Nm.one Kd.bool) :: []))) (tupOf v2))))) := by kernel_rfl
end Go.Proofs.YtmjbmbmnnephjaaGreatDoor
/- What comes of the points of a function: printed by the tool. -/
namespace Go.Proofs.YtmjbmbmnnephjaaGreatDoor
open Go Go.Ev Go.Proofs
set_option maxRecDepth 8000
set_option linter.unusedVariables false
theorem f179_eq (f : Nat) (x0 : ByteArray) (x1 : Int) (x2 : Int) : callF En (runP En (f + 1)) 179 [(Value.string x0), (Value.int IntKind.i64 x1), (Value.int IntKind.i64 x2)] =
  (Prog.call (callF En (runP En f) 213 [(Value.string x0), (Value.int IntKind.i64 x1), (Value.int IntKind.i64 x2)]) fun v4 =>
    (cnd
      (binK En BinOp.neq 103 (Operand.tmp 17) (Operand.const Value.nilIface) (at_ (tupOf v4) 1) Value.nilIface fun v5 =>
        (cnd
          (cnd
            (Prog.call (callF En (runP En f) 214 [(Value.string (mkStr [80, 97, 114, 115, 101, 85, 105, 110, 116])), (Value.string x0), (Value.int IntKind.i64 x1), (Value.int IntKind.i64 x2), (at_ (tupOf v4) 1)]) fun v6 =>
              (Prog.ret (Value.tuple ⟨((Value.int IntKind.u64 (intOf (at_ (tupOf v4) 0))) :: (v6 :: []))⟩)))
            (Prog.ret (Value.tuple ⟨((Value.int IntKind.u64 (intOf (at_ (tupOf v4) 0))) :: (Value.nilIface :: []))⟩))
            (boolOf v5))
          Prog.fail
          (okK Kd.bool v5)))
      Prog.fail
      ((isTupV v4) && (okNs ((Nm.one (Kd.int IntKind.u64)) :: ((Nm.one Kd.raw) :: [])) (tupOf v4))))) := by kernel_rfl
end Go.Proofs.YtmjbmbmnnephjaaGreatDoor
/- What comes of the points of a function: printed by the tool. -/
namespace Go.Proofs.YtmjbmbmnnephjaaGreatDoor
open Go Go.Ev Go.Proofs
set_option maxRecDepth 8000
set_option linter.unusedVariables false
theorem f184_eq (f : Nat) (x0 : ByteArray) (x1 : ByteArray) : callF En (runP En (f + 1)) 184 [(Value.string x0), (Value.string x1)] =
  (Prog.call (callF En (runP En f) 141 [(Value.string x0), (Value.string x1)]) fun v2 =>
    (cnd
      (cnd
        (Prog.ret (Value.tuple ⟨((Value.string x0) :: ((Value.bool Bool.false) :: []))⟩))
        (cnd
          (Prog.ret (Value.tuple ⟨((Value.string (mkStr (List.take ((List.length (Array.toList (ByteArray.data x0))) - (List.length (Array.toList (ByteArray.data x1)))) (List.drop (List.length (Array.toList (ByteArray.data x1))) (Array.toList (ByteArray.data x0)))))) :: ((Value.bool Bool.true) :: []))⟩))
          Prog.fail
          ((Nat.ble (List.length (Array.toList (ByteArray.data x1))) (List.length (Array.toList (ByteArray.data x0)))) && (Nat.ble (List.length (Array.toList (ByteArray.data x0))) (List.length (Array.toList (ByteArray.data x0))))))
        (Bool.not (boolOf v2)))
      Prog.fail
      (okK Kd.bool v2))) := by kernel_rfl
end Go.Proofs.YtmjbmbmnnephjaaGreatDoor
/- What comes of the points of a function: printed by the tool. -/
namespace Go.Proofs.YtmjbmbmnnephjaaGreatDoor
open Go Go.Ev Go.Proofs
set_option maxRecDepth 8000
set_option linter.unusedVariables false
theorem f211_eq (f : Nat) (x0 : ByteArray) (x1 : ByteArray) : callF En (runP En (f + 1)) 211 [(Value.string x0), (Value.string x1)] =
  (cnd
    (cnd
      (cnd
        (Prog.ret (Value.bool (beqB (List.take ((List.length (Array.toList (ByteArray.data x0))) - (Int.toNat (IntKind.wrap IntKind.i64 ((Int.ofNat (List.length (Array.toList (ByteArray.data x0)))) + (Int.negOfNat (List.length (Array.toList (ByteArray.data x1)))))))) (List.drop (Int.toNat (IntKind.wrap IntKind.i64 ((Int.ofNat (List.length (Array.toList (ByteArray.data x0)))) + (Int.negOfNat (List.length (Array.toList (ByteArray.data x1))))))) (Array.toList (ByteArray.data x0)))) (Array.toList (ByteArray.data x1)))))
        Prog.fail
        ((Nat.ble (Int.toNat (IntKind.wrap IntKind.i64 ((Int.ofNat (List.length (Array.toList (ByteArray.data x0)))) + (Int.negOfNat (List.length (Array.toList (ByteArray.data x1))))))) (List.length (Array.toList (ByteArray.data x0)))) && (Nat.ble (List.length (Array.toList (ByteArray.data x0))) (List.length (Array.toList (ByteArray.data x0))))))
      Prog.fail
      (decide ((0 : Int) ≤ (IntKind.wrap IntKind.i64 ((Int.ofNat (List.length (Array.toList (ByteArray.data x0)))) + (Int.negOfNat (List.length (Array.toList (ByteArray.data x1)))))))))
    (Prog.ret (Value.bool Bool.false))
    (decide ((Int.ofNat (List.length (Array.toList (ByteArray.data x0)))) ≥ (Int.ofNat (List.length (Array.toList (ByteArray.data x1))))))) := by kernel_rfl
end Go.Proofs.YtmjbmbmnnephjaaGreatDoor
/- What comes of the points of a function: printed by the tool. -/
namespace Go.Proofs.YtmjbmbmnnephjaaGreatDoor
open Go Go.Ev Go.Proofs
set_option maxRecDepth 8000
set_option linter.unusedVariables false
theorem f212_eq (f : Nat) (x0 : ByteArray) (x1 : ByteArray) : callF En (runP En (f + 1)) 212 [(Value.string x0), (Value.string x1)] =
  (Prog.call (callF En (runP En f) 226 [(Value.string x0), (Value.string x1)]) fun v2 =>
    (cnd
      (cnd
        (cnd
          (cnd
            (cnd
              (cnd
                (Prog.ret (Value.tuple ⟨((Value.string (mkStr (List.take ((Int.toNat (intOf v2)) - 0) (Array.toList (ByteArray.data x0))))) :: ((Value.string (mkStr (List.take ((List.length (Array.toList (ByteArray.data x0))) - (Int.toNat (IntKind.wrap IntKind.i64 ((intOf v2) + (Int.ofNat (List.length (Array.toList (ByteArray.data x1)))))))) (List.drop (Int.toNat (IntKind.wrap IntKind.i64 ((intOf v2) + (Int.ofNat (List.length (Array.toList (ByteArray.data x1))))))) (Array.toList (ByteArray.data x0)))))) :: ((Value.bool Bool.true) :: [])))⟩))
                Prog.fail
                ((Nat.ble (Int.toNat (IntKind.wrap IntKind.i64 ((intOf v2) + (Int.ofNat (List.length (Array.toList (ByteArray.data x1))))))) (List.length (Array.toList (ByteArray.data x0)))) && (Nat.ble (List.length (Array.toList (ByteArray.data x0))) (List.length (Array.toList (ByteArray.data x0))))))
              Prog.fail
              (decide ((0 : Int) ≤ (IntKind.wrap IntKind.i64 ((intOf v2) + (Int.ofNat (List.length (Array.toList (ByteArray.data x1)))))))))
            Prog.fail
            ((Nat.ble 0 (Int.toNat (intOf v2))) && (Nat.ble (Int.toNat (intOf v2)) (List.length (Array.toList (ByteArray.data x0))))))
          Prog.fail
          (decide ((0 : Int) ≤ (intOf v2))))
        (Prog.ret (Value.tuple ⟨((Value.string x0) :: ((Value.string (mkStr [])) :: ((Value.bool Bool.false) :: [])))⟩))
        (decide ((intOf v2) ≥ (0 : Int))))
      Prog.fail
      (okK (Kd.int IntKind.i64) v2))) := by kernel_rfl
end Go.Proofs.YtmjbmbmnnephjaaGreatDoor
/- What comes of the points of a function: printed by the tool. -/
namespace Go.Proofs.YtmjbmbmnnephjaaGreatDoor
open Go Go.Ev Go.Proofs
set_option maxRecDepth 8000
set_option linter.unusedVariables false
noncomputable def p213_21 (f : Nat) (x0 : ByteArray) (x1 : Int) (x2 : Int) (x8 : Bool) (x9 : ByteArray) : Prog := runP En f 213 (tmL 172 [(0, (Value.string x0)), (1, (Value.int IntKind.i64 x1)), (2, (Value.int IntKind.i64 x2)), (8, (Value.bool x8)), (9, (Value.string x9))]) [.code (cL (cL (cR (cR (cR (cR (cR (cB 213)))))))), .code (cR (cL (cR (cR (cR (cR (cR (cB 213)))))))), .code (cR (cR (cR (cR (cR (cR (cB 213)))))))] [] none
noncomputable def p213_25 (f : Nat) (x0 : ByteArray) (x1 : Int) (x2 : Int) (x8 : Bool) (x9 : ByteArray) : Prog := runP En f 213 (tmL 172 [(0, (Value.string x0)), (1, (Value.int IntKind.i64 x1)), (2, (Value.int IntKind.i64 x2)), (8, (Value.bool x8)), (9, (Value.string x9))]) [.code (cL (cR (cR (cR (cR (cR (cR (cB 213)))))))), .code (cR (cR (cR (cR (cR (cR (cR (cB 213))))))))] [] none
noncomputable def p213_32 (f : Nat) (x0 : ByteArray) (x1 : Int) (x2 : Int) (x8 : Bool) (x9 : ByteArray) (x10 : Int) : Prog := runP En f 213 (tmL 172 [(0, (Value.string x0)), (1, (Value.int IntKind.i64 x1)), (2, (Value.int IntKind.i64 x2)), (8, (Value.bool x8)), (9, (Value.string x9)), (10, (Value.int IntKind.u64 x10))]) [.code (cL (cR (cR (cR (cR (cR (cR (cR (cR (cB 213)))))))))), .code (cR (cR (cR (cR (cR (cR (cR (cR (cR (cB 213))))))))))] [] none
noncomputable def p213_36 (f : Nat) (x1 : Int) (x8 : Bool) (x9 : ByteArray) (x10 : Int) (x11 : Int) (x12 : Bool) (x13 : Int) (x99 : Nat) (x99o : Nat) (x99n : Nat) (x99c : Nat) (x100 : Int) (x101 : Int) : Prog := runP En f 213 (tmL 172 [(1, (Value.int IntKind.i64 x1)), (8, (Value.bool x8)), (9, (Value.string x9)), (10, (Value.int IntKind.u64 x10)), (11, (Value.int IntKind.u64 x11)), (12, (Value.bool x12)), (13, (Value.int IntKind.u64 x13)), (99, (Value.slice (Option.some (Addr.mk x99 x99o Option.none)) x99n x99c)), (100, (Value.int IntKind.i64 x100)), (101, (Value.int IntKind.i64 x101))]) [.code (cL (cI (cI (cR (cL (cR (cR (cR (cR (cR (cR (cR (cR (cR (cR (cR (cB 213))))))))))))))))), .code (cR (cI (cI (cR (cL (cR (cR (cR (cR (cR (cR (cR (cR (cR (cR (cR (cB 213))))))))))))))))), .inLoop (cI (cI (cR (cL (cR (cR (cR (cR (cR (cR (cR (cR (cR (cR (cR (cB 213)))))))))))))))), .inBlock 3, .code (cR (cR (cR (cR (cR (cR (cR (cR (cR (cR (cR (cR (cB 213)))))))))))))] [] none
noncomputable def p213_55 (f : Nat) (x1 : Int) (x8 : Bool) (x9 : ByteArray) (x10 : Int) (x11 : Int) (x12 : Bool) (x13 : Int) (x99 : Nat) (x99o : Nat) (x99n : Nat) (x99c : Nat) (x100 : Int) (x101 : Int) : Prog := runP En f 213 (tmL 172 [(1, (Value.int IntKind.i64 x1)), (8, (Value.bool x8)), (9, (Value.string x9)), (10, (Value.int IntKind.u64 x10)), (11, (Value.int IntKind.u64 x11)), (12, (Value.bool x12)), (13, (Value.int IntKind.u64 x13)), (99, (Value.slice (Option.some (Addr.mk x99 x99o Option.none)) x99n x99c)), (100, (Value.int IntKind.i64 x100)), (101, (Value.int IntKind.i64 x101))]) [.code (cR (cR (cR (cI (cI (cR (cL (cR (cR (cR (cR (cR (cR (cR (cR (cR (cR (cR (cB 213))))))))))))))))))), .inLoop (cI (cI (cR (cL (cR (cR (cR (cR (cR (cR (cR (cR (cR (cR (cR (cB 213)))))))))))))))), .inBlock 3, .code (cR (cR (cR (cR (cR (cR (cR (cR (cR (cR (cR (cR (cB 213)))))))))))))] [] none
noncomputable def p213_46 (f : Nat) (x1 : Int) (x8 : Bool) (x9 : ByteArray) (x10 : Int) (x11 : Int) (x12 : Bool) (x13 : Int) (x16 : Int) (x99 : Nat) (x99o : Nat) (x99n : Nat) (x99c : Nat) (x100 : Int) (x101 : Int) : Prog := runP En f 213 (tmL 172 [(1, (Value.int IntKind.i64 x1)), (8, (Value.bool x8)), (9, (Value.string x9)), (10, (Value.int IntKind.u64 x10)), (11, (Value.int IntKind.u64 x11)), (12, (Value.bool x12)), (13, (Value.int IntKind.u64 x13)), (16, (Value.int IntKind.u8 x16)), (99, (Value.slice (Option.some (Addr.mk x99 x99o Option.none)) x99n x99c)), (100, (Value.int IntKind.i64 x100)), (101, (Value.int IntKind.i64 x101))]) [.code (cL (cL (cR (cR (cR (cI (cL (cR (cR (cI (cI (cR (cL (cR (cR (cR (cR (cR (cR (cR (cR (cR (cR (cR (cB 213))))))))))))))))))))))))), .code (cR (cL (cR (cR (cR (cI (cL (cR (cR (cI (cI (cR (cL (cR (cR (cR (cR (cR (cR (cR (cR (cR (cR (cR (cB 213))))))))))))))))))))))))), .code (cR (cR (cR (cR (cI (cL (cR (cR (cI (cI (cR (cL (cR (cR (cR (cR (cR (cR (cR (cR (cR (cR (cR (cB 213)))))))))))))))))))))))), .inBlock 4, .code (cR (cR (cR (cI (cI (cR (cL (cR (cR (cR (cR (cR (cR (cR (cR (cR (cR (cR (cB 213))))))))))))))))))), .inLoop (cI (cI (cR (cL (cR (cR (cR (cR (cR (cR (cR (cR (cR (cR (cR (cB 213)))))))))))))))), .inBlock 3, .code (cR (cR (cR (cR (cR (cR (cR (cR (cR (cR (cR (cR (cB 213)))))))))))))] [] none
theorem p213_21_eq (f : Nat) (x0 : ByteArray) (x1 : Int) (x2 : Int) (x8 : Bool) (x9 : ByteArray) : p213_21 (f + 1) x0 x1 x2 x8 x9 =
  (cnd
    (p213_25 f x0 x1 (64 : Int) x8 x9)
    (cnd
      (Prog.ret (Value.tuple ⟨((Value.int IntKind.u64 (0 : Int)) :: ((Value.iface 190 (Value.int IntKind.i64 (4 : Int))) :: []))⟩))
      (cnd
        (Prog.ret (Value.tuple ⟨((Value.int IntKind.u64 (0 : Int)) :: ((Value.iface 190 (Value.int IntKind.i64 (4 : Int))) :: []))⟩))
        (p213_25 f x0 x1 x2 x8 x9)
        (decide (x2 > (64 : Int))))
      (decide (x2 < (0 : Int))))
    (decide (x2 = (0 : Int)))) := by kernel_rfl
theorem p213_25_eq (f : Nat) (x0 : ByteArray) (x1 : Int) (x2 : Int) (x8 : Bool) (x9 : ByteArray) : p213_25 (f + 1) x0 x1 x2 x8 x9 =
  (cnd
    (p213_32 f x0 x1 x2 x8 x9 (1844674407370955162 : Int))
    (cnd
      (p213_32 f x0 x1 x2 x8 x9 (1152921504606846976 : Int))
      (cnd
        (p213_32 f x0 x1 x2 x8 x9 (IntKind.wrap IntKind.u64 ((IntKind.wrap IntKind.u64 (Int.tdiv (18446744073709551615 : Int) (IntKind.wrap IntKind.u64 x1))) + (1 : Int))))
        Prog.fail
        (decide ((IntKind.wrap IntKind.u64 x1) ≠ (0 : Int))))
      (decide (x1 = (16 : Int))))
    (decide (x1 = (10 : Int)))) := by kernel_rfl
theorem p213_32_eq (f : Nat) (x0 : ByteArray) (x1 : Int) (x2 : Int) (x8 : Bool) (x9 : ByteArray) (x10 : Int) : p213_32 (f + 1) x0 x1 x2 x8 x9 x10 =
  (cnd
    (callP (fun v22 =>
      (cnd
        (p213_36 f x1 x8 x9 x10 (IntKind.wrap IntKind.u64 ((IntKind.wrap IntKind.u64 (Int.ofNat (1 * (Nat.pow 2 (if ((Int.toNat (IntKind.wrap IntKind.u64 x2)) ≤ 64) then (Int.toNat (IntKind.wrap IntKind.u64 x2)) else 64))))) + (-1 : Int))) Bool.false (0 : Int) (sBlk v22) (sOff v22) (sLen v22) (sCap v22) (Int.ofNat (sLen v22)) (0 : Int))
        Prog.fail
        (isSl v22)))
      (Prog.newH (Hdr.mk (List.length (List.map (fun z19 => (Value.int IntKind.u8 (Nat.cast (UInt8.toNat z19)))) (Array.toList (ByteArray.data x0)))) 5 Bool.false Bool.false Bool.true 0 Bool.true Bool.false []) (List.map (fun z20 => (Value.int IntKind.u8 (Nat.cast (UInt8.toNat z20)))) (Array.toList (ByteArray.data x0))) (fun z21 => (Prog.ret (Value.slice (Option.some (Addr.mk z21 (OfNat.ofNat 0) Option.none)) (List.length (Array.toList (ByteArray.data x0))) (capOf (List.length (Array.toList (ByteArray.data x0))) Bool.false))))))
    Prog.fail
    (decide ((0 : Int) ≤ (IntKind.wrap IntKind.u64 x2)))) := by kernel_rfl
theorem p213_36_eq (f : Nat) (x1 : Int) (x8 : Bool) (x9 : ByteArray) (x10 : Int) (x11 : Int) (x12 : Bool) (x13 : Int) (x99 : Nat) (x99o : Nat) (x99n : Nat) (x99c : Nat) (x100 : Int) (x101 : Int) : p213_36 (f + 1) x1 x8 x9 x10 x11 x12 x13 x99 x99o x99n x99c x100 x101 =
  (cnd
    (cnd
      (cnd
        (callP (fun v23 =>
          (cnd
            (cnd
              (cnd
                (p213_55 f x1 x8 x9 x10 x11 Bool.true x13 x99 x99o x99n x99c x100 x101)
                (cnd
                  (cnd
                    (p213_46 f x1 x8 x9 x10 x11 x12 x13 (IntKind.wrap IntKind.u8 ((intOf v23) + (-48 : Int))) x99 x99o x99n x99c x100 x101)
                    (Prog.call (callF En (runP En f) 227 [(Value.int IntKind.u8 (intOf v23))]) fun v24 =>
                      (cnd
                        (cnd
                          (Prog.call (callF En (runP En f) 227 [(Value.int IntKind.u8 (intOf v23))]) fun v25 =>
                            (cnd
                              (cnd
                                (Prog.call (callF En (runP En f) 227 [(Value.int IntKind.u8 (intOf v23))]) fun v26 =>
                                  (cnd
                                    (p213_46 f x1 x8 x9 x10 x11 x12 x13 (IntKind.wrap IntKind.u8 ((IntKind.wrap IntKind.u8 ((intOf v26) + (-97 : Int))) + (10 : Int))) x99 x99o x99n x99c x100 x101)
                                    Prog.fail
                                    (okK (Kd.int IntKind.u8) v26)))
                                (Prog.ret (Value.tuple ⟨((Value.int IntKind.u64 (0 : Int)) :: ((Value.iface 190 (Value.int IntKind.i64 (2 : Int))) :: []))⟩))
                                (decide ((intOf v25) ≤ (122 : Int))))
                              Prog.fail
                              (okK (Kd.int IntKind.u8) v25)))
                          (Prog.ret (Value.tuple ⟨((Value.int IntKind.u64 (0 : Int)) :: ((Value.iface 190 (Value.int IntKind.i64 (2 : Int))) :: []))⟩))
                          (decide ((97 : Int) ≤ (intOf v24))))
                        Prog.fail
                        (okK (Kd.int IntKind.u8) v24)))
                    (decide ((intOf v23) ≤ (57 : Int))))
                  (Prog.call (callF En (runP En f) 227 [(Value.int IntKind.u8 (intOf v23))]) fun v27 =>
                    (cnd
                      (cnd
                        (Prog.call (callF En (runP En f) 227 [(Value.int IntKind.u8 (intOf v23))]) fun v28 =>
                          (cnd
                            (cnd
                              (Prog.call (callF En (runP En f) 227 [(Value.int IntKind.u8 (intOf v23))]) fun v29 =>
                                (cnd
                                  (p213_46 f x1 x8 x9 x10 x11 x12 x13 (IntKind.wrap IntKind.u8 ((IntKind.wrap IntKind.u8 ((intOf v29) + (-97 : Int))) + (10 : Int))) x99 x99o x99n x99c x100 x101)
                                  Prog.fail
                                  (okK (Kd.int IntKind.u8) v29)))
                              (Prog.ret (Value.tuple ⟨((Value.int IntKind.u64 (0 : Int)) :: ((Value.iface 190 (Value.int IntKind.i64 (2 : Int))) :: []))⟩))
                              (decide ((intOf v28) ≤ (122 : Int))))
                            Prog.fail
                            (okK (Kd.int IntKind.u8) v28)))
                        (Prog.ret (Value.tuple ⟨((Value.int IntKind.u64 (0 : Int)) :: ((Value.iface 190 (Value.int IntKind.i64 (2 : Int))) :: []))⟩))
                        (decide ((97 : Int) ≤ (intOf v27))))
                      Prog.fail
                      (okK (Kd.int IntKind.u8) v27)))
                  (decide ((48 : Int) ≤ (intOf v23))))
                x8)
              (cnd
                (cnd
                  (p213_46 f x1 x8 x9 x10 x11 x12 x13 (IntKind.wrap IntKind.u8 ((intOf v23) + (-48 : Int))) x99 x99o x99n x99c x100 x101)
                  (Prog.call (callF En (runP En f) 227 [(Value.int IntKind.u8 (intOf v23))]) fun v30 =>
                    (cnd
                      (cnd
                        (Prog.call (callF En (runP En f) 227 [(Value.int IntKind.u8 (intOf v23))]) fun v31 =>
                          (cnd
                            (cnd
                              (Prog.call (callF En (runP En f) 227 [(Value.int IntKind.u8 (intOf v23))]) fun v32 =>
                                (cnd
                                  (p213_46 f x1 x8 x9 x10 x11 x12 x13 (IntKind.wrap IntKind.u8 ((IntKind.wrap IntKind.u8 ((intOf v32) + (-97 : Int))) + (10 : Int))) x99 x99o x99n x99c x100 x101)
                                  Prog.fail
                                  (okK (Kd.int IntKind.u8) v32)))
                              (Prog.ret (Value.tuple ⟨((Value.int IntKind.u64 (0 : Int)) :: ((Value.iface 190 (Value.int IntKind.i64 (2 : Int))) :: []))⟩))
                              (decide ((intOf v31) ≤ (122 : Int))))
                            Prog.fail
                            (okK (Kd.int IntKind.u8) v31)))
                        (Prog.ret (Value.tuple ⟨((Value.int IntKind.u64 (0 : Int)) :: ((Value.iface 190 (Value.int IntKind.i64 (2 : Int))) :: []))⟩))
                        (decide ((97 : Int) ≤ (intOf v30))))
                      Prog.fail
                      (okK (Kd.int IntKind.u8) v30)))
                  (decide ((intOf v23) ≤ (57 : Int))))
                (Prog.call (callF En (runP En f) 227 [(Value.int IntKind.u8 (intOf v23))]) fun v33 =>
                  (cnd
                    (cnd
                      (Prog.call (callF En (runP En f) 227 [(Value.int IntKind.u8 (intOf v23))]) fun v34 =>
                        (cnd
                          (cnd
                            (Prog.call (callF En (runP En f) 227 [(Value.int IntKind.u8 (intOf v23))]) fun v35 =>
                              (cnd
                                (p213_46 f x1 x8 x9 x10 x11 x12 x13 (IntKind.wrap IntKind.u8 ((IntKind.wrap IntKind.u8 ((intOf v35) + (-97 : Int))) + (10 : Int))) x99 x99o x99n x99c x100 x101)
                                Prog.fail
                                (okK (Kd.int IntKind.u8) v35)))
                            (Prog.ret (Value.tuple ⟨((Value.int IntKind.u64 (0 : Int)) :: ((Value.iface 190 (Value.int IntKind.i64 (2 : Int))) :: []))⟩))
                            (decide ((intOf v34) ≤ (122 : Int))))
                          Prog.fail
                          (okK (Kd.int IntKind.u8) v34)))
                      (Prog.ret (Value.tuple ⟨((Value.int IntKind.u64 (0 : Int)) :: ((Value.iface 190 (Value.int IntKind.i64 (2 : Int))) :: []))⟩))
                      (decide ((97 : Int) ≤ (intOf v33))))
                    Prog.fail
                    (okK (Kd.int IntKind.u8) v33)))
                (decide ((48 : Int) ≤ (intOf v23))))
              (decide ((intOf v23) = (95 : Int))))
            Prog.fail
            (okK (Kd.int IntKind.u8) v23)))
          (loadT En 5 x99 (x99o + ((Int.toNat x101) * 1))))
        Prog.fail
        ((Nat.ble (Nat.succ (Int.toNat x101)) x99n) && Bool.true))
      Prog.fail
      (decide ((0 : Int) ≤ x101)))
    (cnd
      (Prog.call (callF En (runP En f) 228 [(Value.string x9)]) fun v36 =>
        (cnd
          (cnd
            (Prog.ret (Value.tuple ⟨((Value.int IntKind.u64 (0 : Int)) :: ((Value.iface 190 (Value.int IntKind.i64 (2 : Int))) :: []))⟩))
            (Prog.ret (Value.tuple ⟨((Value.int IntKind.u64 x13) :: (Value.nilIface :: []))⟩))
            (Bool.not (boolOf v36)))
          Prog.fail
          (okK Kd.bool v36)))
      (Prog.ret (Value.tuple ⟨((Value.int IntKind.u64 x13) :: (Value.nilIface :: []))⟩))
      x12)
    (decide (x101 < x100))) := by kernel_rfl
theorem p213_55_eq (f : Nat) (x1 : Int) (x8 : Bool) (x9 : ByteArray) (x10 : Int) (x11 : Int) (x12 : Bool) (x13 : Int) (x99 : Nat) (x99o : Nat) (x99n : Nat) (x99c : Nat) (x100 : Int) (x101 : Int) : p213_55 (f + 1) x1 x8 x9 x10 x11 x12 x13 x99 x99o x99n x99c x100 x101 =
  (p213_36 f x1 x8 x9 x10 x11 x12 x13 x99 x99o x99n x99c x100 (IntKind.wrap IntKind.i64 (x101 + (1 : Int)))) := by kernel_rfl
theorem p213_46_eq (f : Nat) (x1 : Int) (x8 : Bool) (x9 : ByteArray) (x10 : Int) (x11 : Int) (x12 : Bool) (x13 : Int) (x16 : Int) (x99 : Nat) (x99o : Nat) (x99n : Nat) (x99c : Nat) (x100 : Int) (x101 : Int) : p213_46 (f + 1) x1 x8 x9 x10 x11 x12 x13 x16 x99 x99o x99n x99c x100 x101 =
  (cnd
    (Prog.ret (Value.tuple ⟨((Value.int IntKind.u64 (0 : Int)) :: ((Value.iface 190 (Value.int IntKind.i64 (2 : Int))) :: []))⟩))
    (cnd
      (Prog.ret (Value.tuple ⟨((Value.int IntKind.u64 x11) :: ((Value.iface 190 (Value.int IntKind.i64 (1 : Int))) :: []))⟩))
      (cnd
        (Prog.ret (Value.tuple ⟨((Value.int IntKind.u64 x11) :: ((Value.iface 190 (Value.int IntKind.i64 (1 : Int))) :: []))⟩))
        (cnd
          (Prog.ret (Value.tuple ⟨((Value.int IntKind.u64 x11) :: ((Value.iface 190 (Value.int IntKind.i64 (1 : Int))) :: []))⟩))
          (p213_55 f x1 x8 x9 x10 x11 x12 (IntKind.wrap IntKind.u64 ((IntKind.wrap IntKind.u64 (x13 * (IntKind.wrap IntKind.u64 x1))) + (IntKind.wrap IntKind.u64 x16))) x99 x99o x99n x99c x100 x101)
          (decide ((IntKind.wrap IntKind.u64 ((IntKind.wrap IntKind.u64 (x13 * (IntKind.wrap IntKind.u64 x1))) + (IntKind.wrap IntKind.u64 x16))) > x11)))
        (decide ((IntKind.wrap IntKind.u64 ((IntKind.wrap IntKind.u64 (x13 * (IntKind.wrap IntKind.u64 x1))) + (IntKind.wrap IntKind.u64 x16))) < (IntKind.wrap IntKind.u64 (x13 * (IntKind.wrap IntKind.u64 x1))))))
      (decide (x13 ≥ x10)))
    (decide (x16 ≥ (IntKind.wrap IntKind.u8 x1)))) := by kernel_rfl
theorem f213a_eq (f : Nat) (x0 : ByteArray) : callF En (runP En (f + 1)) 213 [(Value.string x0), (Value.int IntKind.i64 (10 : Int)), (Value.int IntKind.i64 (64 : Int))] =
  (cnd
    (Prog.ret (Value.tuple ⟨((Value.int IntKind.u64 (0 : Int)) :: ((Value.iface 190 (Value.int IntKind.i64 (2 : Int))) :: []))⟩))
    (p213_21 f x0 (10 : Int) (64 : Int) Bool.false x0)
    (beqB (Array.toList (ByteArray.data x0)) [])) := by kernel_rfl
theorem f213b_eq (f : Nat) (x0 : ByteArray) : callF En (runP En (f + 1)) 213 [(Value.string x0), (Value.int IntKind.i64 (16 : Int)), (Value.int IntKind.i64 (8 : Int))] =
  (cnd
    (Prog.ret (Value.tuple ⟨((Value.int IntKind.u64 (0 : Int)) :: ((Value.iface 190 (Value.int IntKind.i64 (2 : Int))) :: []))⟩))
    (p213_21 f x0 (16 : Int) (8 : Int) Bool.false x0)
    (beqB (Array.toList (ByteArray.data x0)) [])) := by kernel_rfl
end Go.Proofs.YtmjbmbmnnephjaaGreatDoor
/- What comes of the points of a function: printed by the tool. -/
namespace Go.Proofs.YtmjbmbmnnephjaaGreatDoor
open Go Go.Ev Go.Proofs
set_option maxRecDepth 8000
set_option linter.unusedVariables false
theorem f214_eq (f : Nat) (x0 : ByteArray) (x1 : ByteArray) (x2 : Int) (x3 : Int) (x4 : Value) : callF En (runP En (f + 1)) 214 [(Value.string x0), (Value.string x1), (Value.int IntKind.i64 x2), (Value.int IntKind.i64 x3), x4] =
  (binK En BinOp.eql 103 (Operand.tmp 11) (Operand.tmp 13) x4 (Value.iface 190 (Value.int IntKind.i64 (2 : Int))) fun v9 =>
    (cnd
      (cnd
        (Prog.call (callF En (runP En f) 229 [(Value.string x0), (Value.string x1)]) fun v10 =>
          (Prog.ret (Value.iface 192 v10)))
        (binK En BinOp.eql 103 (Operand.tmp 11) (Operand.tmp 20) x4 (Value.iface 190 (Value.int IntKind.i64 (1 : Int))) fun v11 =>
          (cnd
            (cnd
              (Prog.call (callF En (runP En f) 230 [(Value.string x0), (Value.string x1)]) fun v12 =>
                (Prog.ret (Value.iface 192 v12)))
              (binK En BinOp.eql 103 (Operand.tmp 11) (Operand.tmp 27) x4 (Value.iface 190 (Value.int IntKind.i64 (3 : Int))) fun v13 =>
                (cnd
                  (cnd
                    (Prog.call (callF En (runP En f) 231 [(Value.string x0), (Value.string x1), (Value.int IntKind.i64 x2)]) fun v14 =>
                      (Prog.ret (Value.iface 192 v14)))
                    (binK En BinOp.eql 103 (Operand.tmp 11) (Operand.tmp 35) x4 (Value.iface 190 (Value.int IntKind.i64 (4 : Int))) fun v15 =>
                      (cnd
                        (cnd
                          (Prog.call (callF En (runP En f) 232 [(Value.string x0), (Value.string x1), (Value.int IntKind.i64 x3)]) fun v16 =>
                            (Prog.ret (Value.iface 192 v16)))
                          (Prog.ret x4)
                          (boolOf v15))
                        Prog.fail
                        (okK Kd.bool v15)))
                    (boolOf v13))
                  Prog.fail
                  (okK Kd.bool v13)))
              (boolOf v11))
            Prog.fail
            (okK Kd.bool v11)))
        (boolOf v9))
      Prog.fail
      (okK Kd.bool v9))) := by kernel_rfl
end Go.Proofs.YtmjbmbmnnephjaaGreatDoor
/- What comes of the points of a function: printed by the tool. -/
namespace Go.Proofs.YtmjbmbmnnephjaaGreatDoor
open Go Go.Ev Go.Proofs
set_option maxRecDepth 8000
set_option linter.unusedVariables false
theorem f226a_eq (f : Nat) (x0 : ByteArray) : callF En (runP En (f + 1)) 226 [(Value.string x0), (Value.string (mkStr [46]))] =
  (cnd
    (Prog.ret (Value.int IntKind.i64 (0 : Int)))
    (Prog.call (callF En (runP En f) 124 [(Value.string x0), (Value.int IntKind.u8 (46 : Int))]) fun v2 =>
      (cnd
        (Prog.ret (Value.int IntKind.i64 (intOf v2)))
        Prog.fail
        (okK (Kd.int IntKind.i64) v2)))
    (beqB ((UInt8.ofBitVec (BitVec.ofFin (Fin.mk 46 (Nat.mod_lt 46 (BitVec.ofNat._proof_1 8))))) :: []) (Array.toList (ByteArray.data x0)))) := by kernel_rfl
end Go.Proofs.YtmjbmbmnnephjaaGreatDoor
/- What comes of the points of a function: printed by the tool. -/
namespace Go.Proofs.YtmjbmbmnnephjaaGreatDoor
open Go Go.Ev Go.Proofs
set_option maxRecDepth 8000
set_option linter.unusedVariables false
theorem f227_eq (f : Nat) (x0 : Int) : callF En (runP En (f + 1)) 227 [(Value.int IntKind.u8 x0)] =
  (Prog.ret (Value.int IntKind.u8 (IntKind.wrap IntKind.u8 (Int.ofNat (Nat.lor (Int.toNat (Int.emod x0 (256 : Int))) 32))))) := by kernel_rfl
end Go.Proofs.YtmjbmbmnnephjaaGreatDoor
/- What comes of the points of a function: printed by the tool. -/
namespace Go.Proofs.YtmjbmbmnnephjaaGreatDoor
open Go Go.Ev Go.Proofs
set_option maxRecDepth 8000
set_option linter.unusedVariables false
theorem f229_eq (f : Nat) (x0 : ByteArray) (x1 : ByteArray) : callF En (runP En (f + 1)) 229 [(Value.string x0), (Value.string x1)] =
  (Prog.seg (callF En (runP En f) 234 [(Value.string x1)]) fun v10 s11 _ =>
    (cnd
      (Prog.seg (loadT En 103 393217 0) fun v12 s13 _ =>
        (gdL 0 (writesOf s13) s13 [⟨2, writesOf s11, s11⟩]
          (Prog.seg (buildA En 202 ((Prod.mk 0 (Value.string x0)) :: ((Prod.mk 1 (Value.string (strOf v10))) :: ((Prod.mk 2 v12) :: [])))) fun v14 s15 _ =>
            (gdL 15 (writesOf s15) s15 [⟨3, writesOf s13, s13⟩, ⟨2, writesOf s11, s11⟩]
              (Prog.seg (Prog.ite (Nat.beq (List.length (Array.toList (Value.cells v14))) 3) (Prog.newH (Hdr.mk (List.length (Array.toList (Value.cells v14))) 202 Bool.false Bool.true Bool.true 0 Bool.false Bool.false []) (Array.toList (Value.cells v14)) (fun z16 => (Prog.ret (itP z16)))) Prog.fail) fun v17 s18 _ =>
                (gdL 31 (writesOf s18) s18 [⟨4, writesOf s15, s15⟩, ⟨3, writesOf s13, s13⟩, ⟨2, writesOf s11, s11⟩]
                  (cnd
                    (Prog.ret (Value.pointer (Option.some (Addr.mk (blkOf v17) (offOf v17) Option.none))))
                    Prog.fail
                    (isPt v17))))))))
      Prog.fail
      (okK Kd.str v10))) := by kernel_rfl
end Go.Proofs.YtmjbmbmnnephjaaGreatDoor
/- What comes of the points of a function: printed by the tool. -/
namespace Go.Proofs.YtmjbmbmnnephjaaGreatDoor
open Go Go.Ev Go.Proofs
set_option maxRecDepth 8000
set_option linter.unusedVariables false
theorem f230_eq (f : Nat) (x0 : ByteArray) (x1 : ByteArray) : callF En (runP En (f + 1)) 230 [(Value.string x0), (Value.string x1)] =
  (Prog.seg (callF En (runP En f) 234 [(Value.string x1)]) fun v10 s11 _ =>
    (cnd
      (Prog.seg (loadT En 103 458753 0) fun v12 s13 _ =>
        (gdL 0 (writesOf s13) s13 [⟨2, writesOf s11, s11⟩]
          (Prog.seg (buildA En 202 ((Prod.mk 0 (Value.string x0)) :: ((Prod.mk 1 (Value.string (strOf v10))) :: ((Prod.mk 2 v12) :: [])))) fun v14 s15 _ =>
            (gdL 15 (writesOf s15) s15 [⟨3, writesOf s13, s13⟩, ⟨2, writesOf s11, s11⟩]
              (Prog.seg (Prog.ite (Nat.beq (List.length (Array.toList (Value.cells v14))) 3) (Prog.newH (Hdr.mk (List.length (Array.toList (Value.cells v14))) 202 Bool.false Bool.true Bool.true 0 Bool.false Bool.false []) (Array.toList (Value.cells v14)) (fun z16 => (Prog.ret (itP z16)))) Prog.fail) fun v17 s18 _ =>
                (gdL 31 (writesOf s18) s18 [⟨4, writesOf s15, s15⟩, ⟨3, writesOf s13, s13⟩, ⟨2, writesOf s11, s11⟩]
                  (cnd
                    (Prog.ret (Value.pointer (Option.some (Addr.mk (blkOf v17) (offOf v17) Option.none))))
                    Prog.fail
                    (isPt v17))))))))
      Prog.fail
      (okK Kd.str v10))) := by kernel_rfl
end Go.Proofs.YtmjbmbmnnephjaaGreatDoor
/- What comes of the points of a function: printed by the tool. -/
namespace Go.Proofs.YtmjbmbmnnephjaaGreatDoor
open Go Go.Ev Go.Proofs
set_option maxRecDepth 8000
set_option linter.unusedVariables false
theorem f234_eq (f : Nat) (x0 : ByteArray) : callF En (runP En (f + 1)) 234 [(Value.string x0)] =
  (cnd
    (Prog.ret (Value.string (mkStr [])))
    (gd Bool.true
      (gd Bool.true
        (gd (decide (((Int.toNat (Int.ofNat (List.length (Array.toList (ByteArray.data x0))))) ≤ (Int.toNat (Int.ofNat (List.length (Array.toList (ByteArray.data x0)))))) ∧ ((((TypeInfo.bytes Proofs.Tryz.t5) * (Int.toNat (Int.ofNat (List.length (Array.toList (ByteArray.data x0)))))) ≤ (OfNat.ofNat 1099511627776)) ∧ ((Int.toNat (Int.ofNat (List.length (Array.toList (ByteArray.data x0))))) ≤ (OfNat.ofNat 1099511627776)))))
          (callP (fun v8 =>
            (callP (fun v9 =>
              (cnd
                (indexAddrK En 65 v8 (Value.int IntKind.i64 (0 : Int)) fun v10 =>
                  (callP (fun v11 =>
                    (cnd
                      (callP (fun v12 =>
                        (Prog.ret v12))
                        (builtinA En Builtin.unsafeString (113 :: (3 :: [])) (v10 :: ((Value.int IntKind.i64 (intOf v11)) :: []))))
                      Prog.fail
                      (okK (Kd.int IntKind.i64) v11)))
                    (builtinA En Builtin.len (65 :: []) (v8 :: []))))
                Prog.fail
                (okK (Kd.int IntKind.i64) v9)))
              (builtinA En Builtin.copy (65 :: (9 :: [])) (v8 :: ((Value.string x0) :: [])))))
            (Prog.newH (Hdr.mk (List.length (rep ((Value.int IntKind.u8 (0 : Int)) :: []) (List.length (Array.toList (ByteArray.data x0))))) 5 Bool.false Bool.true Bool.true 0 Bool.false Bool.false []) (rep ((Value.int IntKind.u8 (0 : Int)) :: []) (List.length (Array.toList (ByteArray.data x0)))) (fun z7 => (Prog.ret (Value.slice (Option.some (Addr.mk z7 (OfNat.ofNat 0) Option.none)) (Int.toNat (Int.ofNat (List.length (Array.toList (ByteArray.data x0))))) (capOf (Int.toNat (Int.ofNat (List.length (Array.toList (ByteArray.data x0))))) Bool.true)))))))))
    (decide ((Int.ofNat (List.length (Array.toList (ByteArray.data x0)))) = (0 : Int)))) := by kernel_rfl
end Go.Proofs.YtmjbmbmnnephjaaGreatDoor
