/- What comes of the points of a function: printed by the tool. -/
import Derived.Test.YtmjbmbmnnephjaaGreatDoorLxKN3
namespace Go.Proofs.YtmjbmbmnnephjaaGreatDoor
open Go Go.Ev Go.Proofs
set_option maxRecDepth 8000
set_option linter.unusedVariables false
theorem f54_eq (f : Nat) (x0 : Nat) : callF En (runP En (f + 1)) 54 [(Value.pointer (Option.some (Addr.mk x0 0 Option.none)))] =
  (callP (fun v3 =>
    (callP (fun v4 =>
      (cnd
        (Prog.ret (Value.int IntKind.i64 (intOf v4)))
        Prog.fail
        (okK (Kd.int IntKind.i64) v4)))
      (builtinA En Builtin.len (65 :: []) (v3 :: []))))
    (loadT En 65 x0 1)) := by kernel_rfl
end Go.Proofs.YtmjbmbmnnephjaaGreatDoor
/- What comes of the points of a function: printed by the tool. -/
namespace Go.Proofs.YtmjbmbmnnephjaaGreatDoor
open Go Go.Ev Go.Proofs
set_option maxRecDepth 8000
set_option linter.unusedVariables false
theorem f55_eq (f : Nat) (x0 : Nat) : callF En (runP En (f + 1)) 55 [(Value.pointer (Option.some (Addr.mk x0 0 Option.none)))] =
  (Prog.seg (loadT En 65 x0 1) fun v11 s12 _ =>
    (Prog.seg (builtinA En Builtin.unsafeSliceData (65 :: []) (v11 :: [])) fun v13 s14 _ =>
      (gdL 15 (writesOf s14) s14 [⟨3, writesOf s12, s12⟩]
        (Prog.seg (loadT En 65 x0 1) fun v15 s16 _ =>
          (gdL 224 (writesOf s16) s16 [⟨4, writesOf s14, s14⟩, ⟨3, writesOf s12, s12⟩]
            (Prog.seg (builtinA En Builtin.len (65 :: []) (v15 :: [])) fun v17 s18 _ =>
              (gdL 480 (writesOf s18) s18 [⟨8, writesOf s16, s16⟩, ⟨4, writesOf s14, s14⟩, ⟨3, writesOf s12, s12⟩]
                (cnd
                  (Prog.seg (builtinA En Builtin.unsafeString (113 :: (3 :: [])) (v13 :: ((Value.int IntKind.i64 (intOf v17)) :: []))) fun v19 s20 _ =>
                    (gdL 1023 (writesOf s20) s20 [⟨9, writesOf s18, s18⟩, ⟨8, writesOf s16, s16⟩, ⟨4, writesOf s14, s14⟩, ⟨3, writesOf s12, s12⟩]
                      (Prog.ret v19)))
                  Prog.fail
                  (okK (Kd.int IntKind.i64) v17))))))))) := by kernel_rfl
end Go.Proofs.YtmjbmbmnnephjaaGreatDoor
/- What comes of the points of a function: printed by the tool. -/
namespace Go.Proofs.YtmjbmbmnnephjaaGreatDoor
open Go Go.Ev Go.Proofs
set_option maxRecDepth 8000
set_option linter.unusedVariables false
theorem f58_eq (f : Nat) (x0 : ByteArray) (x1 : ByteArray) : callF En (runP En (f + 1)) 58 [(Value.string x0), (Value.string x1)] =
  (cnd
    (Prog.ret (Value.string x0))
    (cnd
      (Prog.ret (Value.string x0))
      (cnd
        (cnd
          (cnd
            (cnd
              (Prog.call (callF En (runP En f) 112 [(Value.string x0), (Value.int IntKind.u8 (Int.ofNat (byteAt x1 0)))]) fun v14 =>
                (cnd
                  (Prog.ret (Value.string (strOf v14)))
                  Prog.fail
                  (okK Kd.str v14)))
              Prog.fail
              (Nat.ble 1 (List.length (Array.toList (ByteArray.data x1)))))
            (Prog.call (callF En (runP En f) 113 [(Value.string x1)]) fun v15 =>
              (cnd
                (callP (fun v17 =>
                  (cnd
                    (callP (fun v18 =>
                      (cnd
                        (Prog.call (callF En (runP En f) 114 [(Value.string x0), (Value.pointer (Option.some (Addr.mk (blkOf v17) (offOf v17) Option.none)))]) fun v19 =>
                          (cnd
                            (Prog.ret (Value.string (strOf v19)))
                            Prog.fail
                            (okK Kd.str v19)))
                        (Prog.call (callF En (runP En f) 115 [(Value.string x0), (Value.string x1)]) fun v20 =>
                          (cnd
                            (Prog.ret (Value.string (strOf v20)))
                            Prog.fail
                            (okK Kd.str v20)))
                        (boolOf (at_ (tupOf v15) 1))))
                      (storeT En 116 (blkOf v17) (offOf v17) (at_ (tupOf v15) 0)))
                    Prog.fail
                    (isPt v17)))
                  (Prog.newH (Hdr.mk 256 116 Bool.false Bool.true Bool.true 0 Bool.false Bool.false []) ((Value.bool Bool.false) :: ((Value.bool Bool.false) :: ((Value.bool Bool.false) :: ((Value.bool Bool.false) :: ((Value.bool Bool.false) :: ((Value.bool Bool.false) :: ((Value.bool Bool.false) :: ((Value.bool Bool.false) :: ((Value.bool Bool.false) :: ((Value.bool Bool.false) :: ((Value.bool Bool.false) :: ((Value.bool Bool.false) :: ((Value.bool Bool.false) :: ((Value.bool Bool.false) :: ((Value.bool Bool.false) :: ((Value.bool Bool.false) :: ((Value.bool Bool.false) :: ((Value.bool Bool.false) :: ((Value.bool Bool.false) :: ((Value.bool Bool.false) :: ((Value.bool Bool.false) :: ((Value.bool Bool.false) :: ((Value.bool Bool.false) :: ((Value.bool Bool.false) :: ((Value.bool Bool.false) :: ((Value.bool Bool.false) :: ((Value.bool Bool.false) :: ((Value.bool Bool.false) :: ((Value.bool Bool.false) :: ((Value.bool Bool.false) :: ((Value.bool Bool.false) :: ((Value.bool Bool.false) :: ((Value.bool Bool.false) :: ((Value.bool Bool.false) :: ((Value.bool Bool.false) :: ((Value.bool Bool.false) :: ((Value.bool Bool.false) :: ((Value.bool Bool.false) :: ((Value.bool Bool.false) :: ((Value.bool Bool.false) :: ((Value.bool Bool.false) :: ((Value.bool Bool.false) :: ((Value.bool Bool.false) :: ((Value.bool Bool.false) :: ((Value.bool Bool.false) :: ((Value.bool Bool.false) :: ((Value.bool Bool.false) :: ((Value.bool Bool.false) :: ((Value.bool Bool.false) :: ((Value.bool Bool.false) :: ((Value.bool Bool.false) :: ((Value.bool Bool.false) :: ((Value.bool Bool.false) :: ((Value.bool Bool.false) :: ((Value.bool Bool.false) :: ((Value.bool Bool.false) :: ((Value.bool Bool.false) :: ((Value.bool Bool.false) :: ((Value.bool Bool.false) :: ((Value.bool Bool.false) :: ((Value.bool Bool.false) :: ((Value.bool Bool.false) :: ((Value.bool Bool.false) :: ((Value.bool Bool.false) :: ((Value.bool Bool.false) :: ((Value.bool Bool.false) :: ((Value.bool Bool.false) :: ((Value.bool Bool.false) :: ((Value.bool Bool.false) :: ((Value.bool Bool.false) :: ((Value.bool Bool.false) :: ((Value.bool Bool.false) :: ((Value.bool Bool.false) :: ((Value.bool Bool.false) :: ((Value.bool Bool.false) :: ((Value.bool Bool.false) :: ((Value.bool Bool.false) :: ((Value.bool Bool.false) :: ((Value.bool Bool.false) :: ((Value.bool Bool.false) :: ((Value.bool Bool.false) :: ((Value.bool Bool.false) :: ((Value.bool Bool.false) :: ((Value.bool Bool.false) :: ((Value.bool Bool.false) :: ((Value.bool Bool.false) :: ((Value.bool Bool.false) :: ((Value.bool Bool.false) :: ((Value.bool Bool.false) :: ((Value.bool Bool.false) :: ((Value.bool Bool.false) :: ((Value.bool Bool.false) :: ((Value.bool Bool.false) :: ((Value.bool Bool.false) :: ((Value.bool Bool.false) :: ((Value.bool Bool.false) :: ((Value.bool Bool.false) :: ((Value.bool Bool.false) :: ((Value.bool Bool.false) :: ((Value.bool Bool.false) :: ((Value.bool Bool.false) :: ((Value.bool Bool.false) :: ((Value.bool Bool.false) :: ((Value.bool Bool.false) :: ((Value.bool Bool.false) :: ((Value.bool Bool.false) :: ((Value.bool Bool.false) :: ((Value.bool Bool.false) :: ((Value.bool Bool.false) :: ((Value.bool Bool.false) :: ((Value.bool Bool.false) :: ((Value.bool Bool.false) :: ((Value.bool Bool.false) :: ((Value.bool Bool.false) :: ((Value.bool Bool.false) :: ((Value.bool Bool.false) :: ((Value.bool Bool.false) :: ((Value.bool Bool.false) :: ((Value.bool Bool.false) :: ((Value.bool Bool.false) :: ((Value.bool Bool.false) :: ((Value.bool Bool.false) :: ((Value.bool Bool.false) :: ((Value.bool Bool.false) :: ((Value.bool Bool.false) :: ((Value.bool Bool.false) :: ((Value.bool Bool.false) :: ((Value.bool Bool.false) :: ((Value.bool Bool.false) :: ((Value.bool Bool.false) :: ((Value.bool Bool.false) :: ((Value.bool Bool.false) :: ((Value.bool Bool.false) :: ((Value.bool Bool.false) :: ((Value.bool Bool.false) :: ((Value.bool Bool.false) :: ((Value.bool Bool.false) :: ((Value.bool Bool.false) :: ((Value.bool Bool.false) :: ((Value.bool Bool.false) :: ((Value.bool Bool.false) :: ((Value.bool Bool.false) :: ((Value.bool Bool.false) :: ((Value.bool Bool.false) :: ((Value.bool Bool.false) :: ((Value.bool Bool.false) :: ((Value.bool Bool.false) :: ((Value.bool Bool.false) :: ((Value.bool Bool.false) :: ((Value.bool Bool.false) :: ((Value.bool Bool.false) :: ((Value.bool Bool.false) :: ((Value.bool Bool.false) :: ((Value.bool Bool.false) :: ((Value.bool Bool.false) :: ((Value.bool Bool.false) :: ((Value.bool Bool.false) :: ((Value.bool Bool.false) :: ((Value.bool Bool.false) :: ((Value.bool Bool.false) :: ((Value.bool Bool.false) :: ((Value.bool Bool.false) :: ((Value.bool Bool.false) :: ((Value.bool Bool.false) :: ((Value.bool Bool.false) :: ((Value.bool Bool.false) :: ((Value.bool Bool.false) :: ((Value.bool Bool.false) :: ((Value.bool Bool.false) :: ((Value.bool Bool.false) :: ((Value.bool Bool.false) :: ((Value.bool Bool.false) :: ((Value.bool Bool.false) :: ((Value.bool Bool.false) :: ((Value.bool Bool.false) :: ((Value.bool Bool.false) :: ((Value.bool Bool.false) :: ((Value.bool Bool.false) :: ((Value.bool Bool.false) :: ((Value.bool Bool.false) :: ((Value.bool Bool.false) :: ((Value.bool Bool.false) :: ((Value.bool Bool.false) :: ((Value.bool Bool.false) :: ((Value.bool Bool.false) :: ((Value.bool Bool.false) :: ((Value.bool Bool.false) :: ((Value.bool Bool.false) :: ((Value.bool Bool.false) :: ((Value.bool Bool.false) :: ((Value.bool Bool.false) :: ((Value.bool Bool.false) :: ((Value.bool Bool.false) :: ((Value.bool Bool.false) :: ((Value.bool Bool.false) :: ((Value.bool Bool.false) :: ((Value.bool Bool.false) :: ((Value.bool Bool.false) :: ((Value.bool Bool.false) :: ((Value.bool Bool.false) :: ((Value.bool Bool.false) :: ((Value.bool Bool.false) :: ((Value.bool Bool.false) :: ((Value.bool Bool.false) :: ((Value.bool Bool.false) :: ((Value.bool Bool.false) :: ((Value.bool Bool.false) :: ((Value.bool Bool.false) :: ((Value.bool Bool.false) :: ((Value.bool Bool.false) :: ((Value.bool Bool.false) :: ((Value.bool Bool.false) :: ((Value.bool Bool.false) :: ((Value.bool Bool.false) :: ((Value.bool Bool.false) :: ((Value.bool Bool.false) :: ((Value.bool Bool.false) :: ((Value.bool Bool.false) :: ((Value.bool Bool.false) :: ((Value.bool Bool.false) :: ((Value.bool Bool.false) :: ((Value.bool Bool.false) :: ((Value.bool Bool.false) :: ((Value.bool Bool.false) :: ((Value.bool Bool.false) :: ((Value.bool Bool.false) :: ((Value.bool Bool.false) :: ((Value.bool Bool.false) :: ((Value.bool Bool.false) :: ((Value.bool Bool.false) :: ((Value.bool Bool.false) :: ((Value.bool Bool.false) :: ((Value.bool Bool.false) :: ((Value.bool Bool.false) :: ((Value.bool Bool.false) :: ((Value.bool Bool.false) :: ((Value.bool Bool.false) :: ((Value.bool Bool.false) :: ((Value.bool Bool.false) :: ((Value.bool Bool.false) :: ((Value.bool Bool.false) :: ((Value.bool Bool.false) :: ((Value.bool Bool.false) :: ((Value.bool Bool.false) :: ((Value.bool Bool.false) :: ((Value.bool Bool.false) :: ((Value.bool Bool.false) :: ((Value.bool Bool.false) :: ((Value.bool Bool.false) :: ((Value.bool Bool.false) :: ((Value.bool Bool.false) :: ((Value.bool Bool.false) :: ((Value.bool Bool.false) :: ((Value.bool Bool.false) :: ((Value.bool Bool.false) :: ((Value.bool Bool.false) :: [])))))))))))))))))))))))))))))))))))))))))))))))))))))))))))))))))))))))))))))))))))))))))))))))))))))))))))))))))))))))))))))))))))))))))))))))))))))))))))))))))))))))))))))))))))))))))))))))))))))))))))))))))))))))))))))))))))))))))))))))))))))))))))))))) (fun z16 => (Prog.ret (itP z16)))))
                Prog.fail
                ((isTupV v15) && (okNs (Nm.raw :: ((Nm.one Kd.bool) :: [])) (tupOf v15)))))
            (decide ((Int.ofNat (byteAt x1 0)) < (128 : Int))))
          Prog.fail
          (Nat.ble 1 (List.length (Array.toList (ByteArray.data x1)))))
        (Prog.call (callF En (runP En f) 113 [(Value.string x1)]) fun v21 =>
          (cnd
            (callP (fun v23 =>
              (cnd
                (callP (fun v24 =>
                  (cnd
                    (Prog.call (callF En (runP En f) 114 [(Value.string x0), (Value.pointer (Option.some (Addr.mk (blkOf v23) (offOf v23) Option.none)))]) fun v25 =>
                      (cnd
                        (Prog.ret (Value.string (strOf v25)))
                        Prog.fail
                        (okK Kd.str v25)))
                    (Prog.call (callF En (runP En f) 115 [(Value.string x0), (Value.string x1)]) fun v26 =>
                      (cnd
                        (Prog.ret (Value.string (strOf v26)))
                        Prog.fail
                        (okK Kd.str v26)))
                    (boolOf (at_ (tupOf v21) 1))))
                  (storeT En 116 (blkOf v23) (offOf v23) (at_ (tupOf v21) 0)))
                Prog.fail
                (isPt v23)))
              (Prog.newH (Hdr.mk 256 116 Bool.false Bool.true Bool.true 0 Bool.false Bool.false []) ((Value.bool Bool.false) :: ((Value.bool Bool.false) :: ((Value.bool Bool.false) :: ((Value.bool Bool.false) :: ((Value.bool Bool.false) :: ((Value.bool Bool.false) :: ((Value.bool Bool.false) :: ((Value.bool Bool.false) :: ((Value.bool Bool.false) :: ((Value.bool Bool.false) :: ((Value.bool Bool.false) :: ((Value.bool Bool.false) :: ((Value.bool Bool.false) :: ((Value.bool Bool.false) :: ((Value.bool Bool.false) :: ((Value.bool Bool.false) :: ((Value.bool Bool.false) :: ((Value.bool Bool.false) :: ((Value.bool Bool.false) :: ((Value.bool Bool.false) :: ((Value.bool Bool.false) :: ((Value.bool Bool.false) :: ((Value.bool Bool.false) :: ((Value.bool Bool.false) :: ((Value.bool Bool.false) :: ((Value.bool Bool.false) :: ((Value.bool Bool.false) :: ((Value.bool Bool.false) :: ((Value.bool Bool.false) :: ((Value.bool Bool.false) :: ((Value.bool Bool.false) :: ((Value.bool Bool.false) :: ((Value.bool Bool.false) :: ((Value.bool Bool.false) :: ((Value.bool Bool.false) :: ((Value.bool Bool.false) :: ((Value.bool Bool.false) :: ((Value.bool Bool.false) :: ((Value.bool Bool.false) :: ((Value.bool Bool.false) :: ((Value.bool Bool.false) :: ((Value.bool Bool.false) :: ((Value.bool Bool.false) :: ((Value.bool Bool.false) :: ((Value.bool Bool.false) :: ((Value.bool Bool.false) :: ((Value.bool Bool.false) :: ((Value.bool Bool.false) :: ((Value.bool Bool.false) :: ((Value.bool Bool.false) :: ((Value.bool Bool.false) :: ((Value.bool Bool.false) :: ((Value.bool Bool.false) :: ((Value.bool Bool.false) :: ((Value.bool Bool.false) :: ((Value.bool Bool.false) :: ((Value.bool Bool.false) :: ((Value.bool Bool.false) :: ((Value.bool Bool.false) :: ((Value.bool Bool.false) :: ((Value.bool Bool.false) :: ((Value.bool Bool.false) :: ((Value.bool Bool.false) :: ((Value.bool Bool.false) :: ((Value.bool Bool.false) :: ((Value.bool Bool.false) :: ((Value.bool Bool.false) :: ((Value.bool Bool.false) :: ((Value.bool Bool.false) :: ((Value.bool Bool.false) :: ((Value.bool Bool.false) :: ((Value.bool Bool.false) :: ((Value.bool Bool.false) :: ((Value.bool Bool.false) :: ((Value.bool Bool.false) :: ((Value.bool Bool.false) :: ((Value.bool Bool.false) :: ((Value.bool Bool.false) :: ((Value.bool Bool.false) :: ((Value.bool Bool.false) :: ((Value.bool Bool.false) :: ((Value.bool Bool.false) :: ((Value.bool Bool.false) :: ((Value.bool Bool.false) :: ((Value.bool Bool.false) :: ((Value.bool Bool.false) :: ((Value.bool Bool.false) :: ((Value.bool Bool.false) :: ((Value.bool Bool.false) :: ((Value.bool Bool.false) :: ((Value.bool Bool.false) :: ((Value.bool Bool.false) :: ((Value.bool Bool.false) :: ((Value.bool Bool.false) :: ((Value.bool Bool.false) :: ((Value.bool Bool.false) :: ((Value.bool Bool.false) :: ((Value.bool Bool.false) :: ((Value.bool Bool.false) :: ((Value.bool Bool.false) :: ((Value.bool Bool.false) :: ((Value.bool Bool.false) :: ((Value.bool Bool.false) :: ((Value.bool Bool.false) :: ((Value.bool Bool.false) :: ((Value.bool Bool.false) :: ((Value.bool Bool.false) :: ((Value.bool Bool.false) :: ((Value.bool Bool.false) :: ((Value.bool Bool.false) :: ((Value.bool Bool.false) :: ((Value.bool Bool.false) :: ((Value.bool Bool.false) :: ((Value.bool Bool.false) :: ((Value.bool Bool.false) :: ((Value.bool Bool.false) :: ((Value.bool Bool.false) :: ((Value.bool Bool.false) :: ((Value.bool Bool.false) :: ((Value.bool Bool.false) :: ((Value.bool Bool.false) :: ((Value.bool Bool.false) :: ((Value.bool Bool.false) :: ((Value.bool Bool.false) :: ((Value.bool Bool.false) :: ((Value.bool Bool.false) :: ((Value.bool Bool.false) :: ((Value.bool Bool.false) :: ((Value.bool Bool.false) :: ((Value.bool Bool.false) :: ((Value.bool Bool.false) :: ((Value.bool Bool.false) :: ((Value.bool Bool.false) :: ((Value.bool Bool.false) :: ((Value.bool Bool.false) :: ((Value.bool Bool.false) :: ((Value.bool Bool.false) :: ((Value.bool Bool.false) :: ((Value.bool Bool.false) :: ((Value.bool Bool.false) :: ((Value.bool Bool.false) :: ((Value.bool Bool.false) :: ((Value.bool Bool.false) :: ((Value.bool Bool.false) :: ((Value.bool Bool.false) :: ((Value.bool Bool.false) :: ((Value.bool Bool.false) :: ((Value.bool Bool.false) :: ((Value.bool Bool.false) :: ((Value.bool Bool.false) :: ((Value.bool Bool.false) :: ((Value.bool Bool.false) :: ((Value.bool Bool.false) :: ((Value.bool Bool.false) :: ((Value.bool Bool.false) :: ((Value.bool Bool.false) :: ((Value.bool Bool.false) :: ((Value.bool Bool.false) :: ((Value.bool Bool.false) :: ((Value.bool Bool.false) :: ((Value.bool Bool.false) :: ((Value.bool Bool.false) :: ((Value.bool Bool.false) :: ((Value.bool Bool.false) :: ((Value.bool Bool.false) :: ((Value.bool Bool.false) :: ((Value.bool Bool.false) :: ((Value.bool Bool.false) :: ((Value.bool Bool.false) :: ((Value.bool Bool.false) :: ((Value.bool Bool.false) :: ((Value.bool Bool.false) :: ((Value.bool Bool.false) :: ((Value.bool Bool.false) :: ((Value.bool Bool.false) :: ((Value.bool Bool.false) :: ((Value.bool Bool.false) :: ((Value.bool Bool.false) :: ((Value.bool Bool.false) :: ((Value.bool Bool.false) :: ((Value.bool Bool.false) :: ((Value.bool Bool.false) :: ((Value.bool Bool.false) :: ((Value.bool Bool.false) :: ((Value.bool Bool.false) :: ((Value.bool Bool.false) :: ((Value.bool Bool.false) :: ((Value.bool Bool.false) :: ((Value.bool Bool.false) :: ((Value.bool Bool.false) :: ((Value.bool Bool.false) :: ((Value.bool Bool.false) :: ((Value.bool Bool.false) :: ((Value.bool Bool.false) :: ((Value.bool Bool.false) :: ((Value.bool Bool.false) :: ((Value.bool Bool.false) :: ((Value.bool Bool.false) :: ((Value.bool Bool.false) :: ((Value.bool Bool.false) :: ((Value.bool Bool.false) :: ((Value.bool Bool.false) :: ((Value.bool Bool.false) :: ((Value.bool Bool.false) :: ((Value.bool Bool.false) :: ((Value.bool Bool.false) :: ((Value.bool Bool.false) :: ((Value.bool Bool.false) :: ((Value.bool Bool.false) :: ((Value.bool Bool.false) :: ((Value.bool Bool.false) :: ((Value.bool Bool.false) :: ((Value.bool Bool.false) :: ((Value.bool Bool.false) :: ((Value.bool Bool.false) :: ((Value.bool Bool.false) :: ((Value.bool Bool.false) :: ((Value.bool Bool.false) :: ((Value.bool Bool.false) :: ((Value.bool Bool.false) :: ((Value.bool Bool.false) :: ((Value.bool Bool.false) :: ((Value.bool Bool.false) :: ((Value.bool Bool.false) :: ((Value.bool Bool.false) :: ((Value.bool Bool.false) :: ((Value.bool Bool.false) :: ((Value.bool Bool.false) :: ((Value.bool Bool.false) :: ((Value.bool Bool.false) :: ((Value.bool Bool.false) :: ((Value.bool Bool.false) :: ((Value.bool Bool.false) :: ((Value.bool Bool.false) :: ((Value.bool Bool.false) :: ((Value.bool Bool.false) :: ((Value.bool Bool.false) :: ((Value.bool Bool.false) :: ((Value.bool Bool.false) :: ((Value.bool Bool.false) :: ((Value.bool Bool.false) :: ((Value.bool Bool.false) :: ((Value.bool Bool.false) :: ((Value.bool Bool.false) :: ((Value.bool Bool.false) :: ((Value.bool Bool.false) :: ((Value.bool Bool.false) :: ((Value.bool Bool.false) :: ((Value.bool Bool.false) :: ((Value.bool Bool.false) :: ((Value.bool Bool.false) :: ((Value.bool Bool.false) :: ((Value.bool Bool.false) :: ((Value.bool Bool.false) :: ((Value.bool Bool.false) :: ((Value.bool Bool.false) :: [])))))))))))))))))))))))))))))))))))))))))))))))))))))))))))))))))))))))))))))))))))))))))))))))))))))))))))))))))))))))))))))))))))))))))))))))))))))))))))))))))))))))))))))))))))))))))))))))))))))))))))))))))))))))))))))))))))))))))))))))))))))))))))))))) (fun z22 => (Prog.ret (itP z22)))))
            Prog.fail
            ((isTupV v21) && (okNs (Nm.raw :: ((Nm.one Kd.bool) :: [])) (tupOf v21)))))
        (decide ((Int.ofNat (List.length (Array.toList (ByteArray.data x1)))) = (1 : Int))))
      (beqB (Array.toList (ByteArray.data x1)) []))
    (beqB (Array.toList (ByteArray.data x0)) [])) := by kernel_rfl
end Go.Proofs.YtmjbmbmnnephjaaGreatDoor
/- What comes of the points of a function: printed by the tool. -/
namespace Go.Proofs.YtmjbmbmnnephjaaGreatDoor
open Go Go.Ev Go.Proofs
set_option maxRecDepth 8000
set_option linter.unusedVariables false
theorem f59_eq (f : Nat) (x0 : Nat) (x1 : Int) : callF En (runP En (f + 1)) 59 [(Value.pointer (Option.some (Addr.mk x0 0 Option.none))), (Value.int IntKind.i64 x1)] =
  (Prog.seg (loadT En 3 x0 1) fun v9 s10 _ =>
    (cnd
      (Prog.seg (loadT En 9 x0 0) fun v11 s12 _ =>
        (gdL 448 (writesOf s12) s12 [⟨3, writesOf s10, s10⟩]
          (cnd
            (cnd
              (Prog.seg (loadT En 9 x0 0) fun v13 s14 _ =>
                (cnd
                  (Prog.seg (loadT En 3 x0 1) fun v15 s16 _ =>
                    (gdL 112 (writesOf s16) s16 [⟨3, writesOf s14, s14⟩]
                      (cnd
                        (cnd
                          (cnd
                            (Prog.ret (Value.int IntKind.u8 (Int.ofNat (byteAt (strOf v13) (Int.toNat (IntKind.wrap IntKind.i64 ((intOf v15) + x1)))))))
                            Prog.fail
                            (Nat.ble (Nat.succ (Int.toNat (IntKind.wrap IntKind.i64 ((intOf v15) + x1)))) (List.length (Array.toList (ByteArray.data (strOf v13))))))
                          Prog.fail
                          (decide ((0 : Int) ≤ (IntKind.wrap IntKind.i64 ((intOf v15) + x1)))))
                        Prog.fail
                        (okK (Kd.int IntKind.i64) v15))))
                  Prog.fail
                  (okK Kd.str v13)))
              (Prog.ret (Value.int IntKind.u8 (0 : Int)))
              (decide ((IntKind.wrap IntKind.i64 ((intOf v9) + x1)) < (Int.ofNat (List.length (Array.toList (ByteArray.data (strOf v11))))))))
            Prog.fail
            (okK Kd.str v11))))
      Prog.fail
      (okK (Kd.int IntKind.i64) v9))) := by kernel_rfl
end Go.Proofs.YtmjbmbmnnephjaaGreatDoor
/- What comes of the points of a function: printed by the tool. -/
namespace Go.Proofs.YtmjbmbmnnephjaaGreatDoor
open Go Go.Ev Go.Proofs
set_option maxRecDepth 8000
set_option linter.unusedVariables false
theorem f60_eq (f : Nat) (x0 : Int) : callF En (runP En (f + 1)) 60 [(Value.int IntKind.u8 x0)] =
  (cnd
    (Prog.ret (Value.bool (decide (x0 ≤ (57 : Int)))))
    (Prog.ret (Value.bool Bool.false))
    (decide (x0 ≥ (48 : Int)))) := by kernel_rfl
end Go.Proofs.YtmjbmbmnnephjaaGreatDoor
/- What comes of the points of a function: printed by the tool. -/
namespace Go.Proofs.YtmjbmbmnnephjaaGreatDoor
open Go Go.Ev Go.Proofs
set_option maxRecDepth 8000
set_option linter.unusedVariables false
theorem f66_eq (f : Nat) (x0 : ByteArray) (x1 : Int) : callF En (runP En (f + 1)) 66 [(Value.string x0), (Value.int IntKind.u8 x1)] =
  (Prog.call (callF En (runP En f) 124 [(Value.string x0), (Value.int IntKind.u8 x1)]) fun v2 =>
    (cnd
      (Prog.ret (Value.int IntKind.i64 (intOf v2)))
      Prog.fail
      (okK (Kd.int IntKind.i64) v2))) := by kernel_rfl
end Go.Proofs.YtmjbmbmnnephjaaGreatDoor
/- What comes of the points of a function: printed by the tool. -/
namespace Go.Proofs.YtmjbmbmnnephjaaGreatDoor
open Go Go.Ev Go.Proofs
set_option maxRecDepth 8000
set_option linter.unusedVariables false
noncomputable def p77_3 (f : Nat) (x0 : Nat) (x1 : Int) : Prog := runP En f 77 (tmL 25 [(0, (Value.pointer (Option.some (Addr.mk x0 0 Option.none)))), (1, (Value.int IntKind.i64 x1))]) [.code (cL (cR (cR (cB 77)))), .code (cR (cR (cR (cB 77))))] [] none
theorem p77_3_eq (f : Nat) (x0 : Nat) (x1 : Int) : p77_3 (f + 1) x0 x1 =
  (Prog.seg (loadT En 65 x0 1) fun v2 s3 _ =>
    (Prog.seg (builtinA En Builtin.cap (65 :: []) (v2 :: [])) fun v4 s5 _ =>
      (gdL 15 (writesOf s5) s5 [⟨3, writesOf s3, s3⟩]
        (cnd
          (Prog.seg (loadT En 65 x0 1) fun v6 s7 _ =>
            (gdL 224 (writesOf s7) s7 [⟨4, writesOf s5, s5⟩, ⟨3, writesOf s3, s3⟩]
              (Prog.seg (builtinA En Builtin.len (65 :: []) (v6 :: [])) fun v8 s9 _ =>
                (gdL 480 (writesOf s9) s9 [⟨8, writesOf s7, s7⟩, ⟨4, writesOf s5, s5⟩, ⟨3, writesOf s3, s3⟩]
                  (cnd
                    (cnd
                      (Prog.call (callF En (runP En f) 135 [(Value.pointer (Option.some (Addr.mk x0 0 Option.none))), (Value.int IntKind.i64 x1)]) fun v10 =>
                        (cnd
                          (Prog.ret (Value.tuple ⟨[]⟩))
                          Prog.fail
                          ((isTupV v10) && (okNs [] (tupOf v10)))))
                      (Prog.ret (Value.tuple ⟨[]⟩))
                      (decide ((IntKind.wrap IntKind.i64 ((intOf v4) + (Int.neg (intOf v8)))) < x1)))
                    Prog.fail
                    (okK (Kd.int IntKind.i64) v8))))))
          Prog.fail
          (okK (Kd.int IntKind.i64) v4))))) := by kernel_rfl
theorem f77_eq (f : Nat) (x0 : Nat) (x1 : Int) : callF En (runP En (f + 1)) 77 [(Value.pointer (Option.some (Addr.mk x0 0 Option.none))), (Value.int IntKind.i64 x1)] =
  (Prog.call (callF En (runP En f) 134 [(Value.pointer (Option.some (Addr.mk x0 0 Option.none)))]) fun v11 =>
    (cnd
      (cnd
        Prog.fail
        (p77_3 f x0 x1)
        (decide (x1 < (0 : Int))))
      Prog.fail
      ((isTupV v11) && (okNs [] (tupOf v11))))) := by kernel_rfl
end Go.Proofs.YtmjbmbmnnephjaaGreatDoor
/- What comes of the points of a function: printed by the tool. -/
namespace Go.Proofs.YtmjbmbmnnephjaaGreatDoor
open Go Go.Ev Go.Proofs
set_option maxRecDepth 8000
set_option linter.unusedVariables false
theorem f78_eq (f : Nat) (x0 : Nat) (x1 : ByteArray) : callF En (runP En (f + 1)) 78 [(Value.pointer (Option.some (Addr.mk x0 0 Option.none))), (Value.string x1)] =
  (Prog.call (callF En (runP En f) 134 [(Value.pointer (Option.some (Addr.mk x0 0 Option.none)))]) fun v5 =>
    (cnd
      (callP (fun v6 =>
        (callP (fun v7 =>
          (callP (fun v8 =>
            (Prog.ret (Value.tuple ⟨((Value.int IntKind.i64 (Int.ofNat (List.length (Array.toList (ByteArray.data x1))))) :: (Value.nilIface :: []))⟩)))
            (storeT En 65 x0 1 v7)))
          (builtinA En Builtin.append (65 :: (9 :: [])) (v6 :: ((Value.string x1) :: [])))))
        (loadT En 65 x0 1))
      Prog.fail
      ((isTupV v5) && (okNs [] (tupOf v5))))) := by kernel_rfl
end Go.Proofs.YtmjbmbmnnephjaaGreatDoor
/- What comes of the points of a function: printed by the tool. -/
namespace Go.Proofs.YtmjbmbmnnephjaaGreatDoor
open Go Go.Ev Go.Proofs
set_option maxRecDepth 8000
set_option linter.unusedVariables false
theorem f81_eq (f : Nat) (x0 : Nat) (x0o : Nat) : callF En (runP En (f + 1)) 81 [(Value.pointer (Option.some (Addr.mk x0 x0o Option.none)))] =
  (callP (fun v4 =>
    (cnd
      (callP (fun v5 =>
        (cnd
          (callP (fun v6 =>
            (Prog.ret (Value.tuple ⟨[]⟩)))
            (storeT En 3 (blkOf v4) ((offOf v4) + 2) (Value.int IntKind.i64 (IntKind.wrap IntKind.i64 ((intOf v5) + (-1 : Int))))))
          Prog.fail
          (okK (Kd.int IntKind.i64) v5)))
        (loadT En 3 (blkOf v4) ((offOf v4) + 2)))
      Prog.fail
      (isPt v4)))
    (loadT En 70 x0 x0o)) := by kernel_rfl
end Go.Proofs.YtmjbmbmnnephjaaGreatDoor
/- What comes of the points of a function: printed by the tool. -/
namespace Go.Proofs.YtmjbmbmnnephjaaGreatDoor
open Go Go.Ev Go.Proofs
set_option maxRecDepth 8000
set_option linter.unusedVariables false
theorem f82_eq (f : Nat) (x0 : Nat) (x1 : ByteArray) : callF En (runP En (f + 1)) 82 [(Value.pointer (Option.some (Addr.mk x0 0 Option.none))), (Value.string x1)] =
  (callP (fun v4 =>
    (cnd
      (Prog.call (callF En (runP En f) 136 [(Value.string (strOf v4)), (Value.string x1)]) fun v5 =>
        (cnd
          (callP (fun v6 =>
            (Prog.ret (Value.bool (boolOf (at_ (tupOf v5) 1)))))
            (storeT En 9 x0 0 (Value.string (strOf (at_ (tupOf v5) 0)))))
          Prog.fail
          ((isTupV v5) && (okNs ((Nm.one Kd.str) :: ((Nm.one Kd.bool) :: [])) (tupOf v5)))))
      Prog.fail
      (okK Kd.str v4)))
    (loadT En 9 x0 0)) := by kernel_rfl
end Go.Proofs.YtmjbmbmnnephjaaGreatDoor
/- What comes of the points of a function: printed by the tool. -/
namespace Go.Proofs.YtmjbmbmnnephjaaGreatDoor
open Go Go.Ev Go.Proofs
set_option maxRecDepth 8000
set_option linter.unusedVariables false
theorem f85_eq (f : Nat) (x0 : ByteArray) (x1 : ByteArray) : callF En (runP En (f + 1)) 85 [(Value.string x0), (Value.string x1)] =
  (Prog.call (callF En (runP En f) 141 [(Value.string x0), (Value.string x1)]) fun v2 =>
    (cnd
      (Prog.ret (Value.bool (boolOf v2)))
      Prog.fail
      (okK Kd.bool v2))) := by kernel_rfl
end Go.Proofs.YtmjbmbmnnephjaaGreatDoor
/- What comes of the points of a function: printed by the tool. -/
namespace Go.Proofs.YtmjbmbmnnephjaaGreatDoor
open Go Go.Ev Go.Proofs
set_option maxRecDepth 8000
set_option linter.unusedVariables false
noncomputable def p90_7 (f : Nat) (x1 : Nat) (x1o : Nat) (x2 : Nat) (x2o : Nat) (x5 : ByteArray) (x7 : Nat) (x7o : Nat) (x24 : Int) (x25 : Int) : Prog := runP En f 90 (tmL 97 [(1, (Value.pointer (Option.some (Addr.mk x1 x1o Option.none)))), (2, (Value.pointer (Option.some (Addr.mk x2 x2o Option.none)))), (5, (Value.string x5)), (7, (Value.pointer (Option.some (Addr.mk x7 x7o Option.none)))), (24, (Value.int IntKind.i64 x24)), (25, (Value.int IntKind.i64 x25))]) [.code (cL (cI (cI (cR (cL (cR (cL (cR (cR (cL (cR (cR (cR (cB 90)))))))))))))), .code (cR (cI (cI (cR (cL (cR (cL (cR (cR (cL (cR (cR (cR (cB 90)))))))))))))), .inLoop (cI (cI (cR (cL (cR (cL (cR (cR (cL (cR (cR (cR (cB 90))))))))))))), .inBlock 0, .code (cR (cR (cL (cR (cR (cL (cR (cR (cR (cB 90)))))))))), .code (cR (cR (cR (cR (cB 90)))))] [] none
noncomputable def p90_14 (f : Nat) (x1 : Nat) (x1o : Nat) (x2 : Nat) (x2o : Nat) (x3_0 : Nat) (x3_0o : Nat) (x4 : ByteArray) (x9 : Nat) (x9o : Nat) : Prog := runP En f 90 (tmL 97 [(1, (Value.pointer (Option.some (Addr.mk x1 x1o Option.none)))), (2, (Value.pointer (Option.some (Addr.mk x2 x2o Option.none)))), (3, (Value.func (Fn.func 146) ⟨[]⟩ ⟨((Value.pointer (Option.some (Addr.mk x3_0 x3_0o Option.none))) :: [])⟩)), (4, (Value.string x4)), (9, (Value.pointer (Option.some (Addr.mk x9 x9o Option.none))))]) [.code (cL (cI (cI (cI (cR (cR (cR (cR (cR (cB 90)))))))))), .code (cR (cI (cI (cI (cR (cR (cR (cR (cR (cB 90)))))))))), .inBlock 3, .inLoop (cI (cI (cR (cR (cR (cR (cR (cB 90)))))))), .inBlock 2] [] none
theorem p90_7_eq (f : Nat) (x1 : Nat) (x1o : Nat) (x2 : Nat) (x2o : Nat) (x5 : ByteArray) (x7 : Nat) (x7o : Nat) (x24 : Int) (x25 : Int) : p90_7 (f + 1) x1 x1o x2 x2o x5 x7 x7o x24 x25 =
  (cnd
    (Prog.seg (loadT En 28 x7 (x7o + 1)) fun v14 s15 _ =>
      (cnd
        (cnd
          (Prog.seg (buildSliceA En 28 1 ((Prod.mk 0 (Value.int IntKind.i64 (IntKind.wrap IntKind.i64 ((IntKind.wrap IntKind.i64 (Int.ofNat (byteAt x5 (Int.toNat x25)))) + (-48 : Int))))) :: [])) fun v16 s17 _ =>
            (gdL 124 (writesOf s17) s17 [⟨1, writesOf s15, s15⟩]
              (Prog.seg (builtinA En Builtin.append (28 :: (28 :: [])) (v14 :: (v16 :: []))) fun v18 s19 _ =>
                (gdL 255 (writesOf s19) s19 [⟨7, writesOf s17, s17⟩, ⟨1, writesOf s15, s15⟩]
                  (Prog.seg (storeT En 28 x7 (x7o + 1) v18) fun v20 s21 _ =>
                    (gdL 1023 (writesOf s21) s21 [⟨8, writesOf s19, s19⟩, ⟨7, writesOf s17, s17⟩, ⟨1, writesOf s15, s15⟩]
                      (p90_7 f x1 x1o x2 x2o x5 x7 x7o x24 (IntKind.wrap IntKind.i64 (x25 + (1 : Int))))))))))
          Prog.fail
          (Nat.ble (Nat.succ (Int.toNat x25)) (List.length (Array.toList (ByteArray.data x5)))))
        Prog.fail
        (decide ((0 : Int) ≤ x25))))
    (Prog.seg (loadT En 70 x1 x1o) fun v22 s23 _ =>
      (cnd
        (Prog.seg (loadT En 70 x1 x1o) fun v24 s25 _ =>
          (gdL 0 (writesOf s25) s25 [⟨0, writesOf s23, s23⟩]
            (cnd
              (Prog.seg (loadT En 4 (blkOf v24) (((offOf v24) + 0) + 1)) fun v26 s27 _ =>
                (gdL 30 (writesOf s27) s27 [⟨1, writesOf s25, s25⟩, ⟨0, writesOf s23, s23⟩]
                  (cnd
                    (cnd
                      (Prog.seg (storeT En 4 (blkOf v22) (((offOf v22) + 0) + 1) (Value.bool Bool.true)) fun v28 s29 _ =>
                        (gdL 8191 (writesOf s29) s29 [⟨5, writesOf s27, s27⟩, ⟨1, writesOf s25, s25⟩, ⟨0, writesOf s23, s23⟩]
                          (callP (fun v30 =>
                            (cnd
                              (Prog.call (callF En (runP En f) 145 [(Value.agg ⟨((Value.int IntKind.i64 (intOf (at_ (aggOf v30) 0))) :: ((at_ (aggOf v30) 1) :: ((at_ (aggOf v30) 2) :: ((at_ (aggOf v30) 3) :: []))))⟩)]) fun v31 =>
                                (cnd
                                  (callP (fun v32 =>
                                    (Prog.call (loadT En 32 x2 x2o) fun v33 =>
                                      (frzT En 32 v33 fun v34 =>
                                        (Prog.ret v34))))
                                    (storeT En 32 x2 x2o (Value.agg ⟨((Value.int IntKind.i64 (intOf (at_ (aggOf v31) 0))) :: ((lstV (elems (at_ (aggOf v31) 1))) :: ((lstV (elems (at_ (aggOf v31) 2))) :: ((lstV (elems (at_ (aggOf v31) 3))) :: []))))⟩)))
                                  Prog.fail
                                  ((isAggV v31) && (okKs ((Kd.int IntKind.i64) :: (Kd.lst :: (Kd.lst :: (Kd.lst :: [])))) (aggOf v31)))))
                              Prog.fail
                              ((isAggV v30) && (okKs ((Kd.int IntKind.i64) :: (Kd.raw :: (Kd.raw :: (Kd.raw :: [])))) (aggOf v30)))))
                            (loadT En 32 x7 x7o))))
                      (Prog.seg (storeT En 4 (blkOf v22) (((offOf v22) + 0) + 1) (Value.bool (beqB (Array.toList (ByteArray.data x5)) []))) fun v35 s36 _ =>
                        (gdL 8191 (writesOf s36) s36 [⟨5, writesOf s27, s27⟩, ⟨1, writesOf s25, s25⟩, ⟨0, writesOf s23, s23⟩]
                          (callP (fun v37 =>
                            (cnd
                              (Prog.call (callF En (runP En f) 145 [(Value.agg ⟨((Value.int IntKind.i64 (intOf (at_ (aggOf v37) 0))) :: ((at_ (aggOf v37) 1) :: ((at_ (aggOf v37) 2) :: ((at_ (aggOf v37) 3) :: []))))⟩)]) fun v38 =>
                                (cnd
                                  (callP (fun v39 =>
                                    (Prog.call (loadT En 32 x2 x2o) fun v40 =>
                                      (frzT En 32 v40 fun v41 =>
                                        (Prog.ret v41))))
                                    (storeT En 32 x2 x2o (Value.agg ⟨((Value.int IntKind.i64 (intOf (at_ (aggOf v38) 0))) :: ((lstV (elems (at_ (aggOf v38) 1))) :: ((lstV (elems (at_ (aggOf v38) 2))) :: ((lstV (elems (at_ (aggOf v38) 3))) :: []))))⟩)))
                                  Prog.fail
                                  ((isAggV v38) && (okKs ((Kd.int IntKind.i64) :: (Kd.lst :: (Kd.lst :: (Kd.lst :: [])))) (aggOf v38)))))
                              Prog.fail
                              ((isAggV v37) && (okKs ((Kd.int IntKind.i64) :: (Kd.raw :: (Kd.raw :: (Kd.raw :: [])))) (aggOf v37)))))
                            (loadT En 32 x7 x7o))))
                      (boolOf v26))
                    Prog.fail
                    (okK Kd.bool v26))))
              Prog.fail
              (isPt v24))))
        Prog.fail
        (isPt v22)))
    (decide (x25 < x24))) := by kernel_rfl
theorem p90_14_eq (f : Nat) (x1 : Nat) (x1o : Nat) (x2 : Nat) (x2o : Nat) (x3_0 : Nat) (x3_0o : Nat) (x4 : ByteArray) (x9 : Nat) (x9o : Nat) : p90_14 (f + 1) x1 x1o x2 x2o x3_0 x3_0o x4 x9 x9o =
  (Prog.call (callF En (runP En f) 151 [(Value.string x4)]) fun v42 =>
    (cnd
      (cnd
        (callP (fun v43 =>
          (cnd
            (callP (fun v44 =>
              (callP (fun v45 =>
                (cnd
                  (callP (fun v46 =>
                    (Prog.call (loadT En 32 x2 x2o) fun v47 =>
                      (frzT En 32 v47 fun v48 =>
                        (Prog.ret v48))))
                    (storeT En 32 x2 x2o (Value.agg ⟨((Value.int IntKind.i64 (intOf (at_ (aggOf v45) 0))) :: ((at_ (aggOf v45) 1) :: ((at_ (aggOf v45) 2) :: ((at_ (aggOf v45) 3) :: []))))⟩)))
                  Prog.fail
                  ((isAggV v45) && (okKs ((Kd.int IntKind.i64) :: (Kd.raw :: (Kd.raw :: (Kd.raw :: [])))) (aggOf v45)))))
                (loadT En 32 x9 x9o)))
              (storeT En 4 (blkOf v43) (((offOf v43) + 0) + 1) (Value.bool Bool.true)))
            Prog.fail
            (isPt v43)))
          (loadT En 70 x1 x1o))
        (callP (fun v49 =>
          (callP (fun v50 =>
            (cnd
              (cnd
                (callP (fun v51 =>
                  (cnd
                    (cnd
                      (callP (fun v52 =>
                        (cnd
                          (callP (fun v53 =>
                            (callP (fun v54 =>
                              (cnd
                                (callP (fun v55 =>
                                  (Prog.call (loadT En 32 x2 x2o) fun v56 =>
                                    (frzT En 32 v56 fun v57 =>
                                      (Prog.ret v57))))
                                  (storeT En 32 x2 x2o (Value.agg ⟨((Value.int IntKind.i64 (intOf (at_ (aggOf v54) 0))) :: ((at_ (aggOf v54) 1) :: ((at_ (aggOf v54) 2) :: ((at_ (aggOf v54) 3) :: []))))⟩)))
                                Prog.fail
                                ((isAggV v54) && (okKs ((Kd.int IntKind.i64) :: (Kd.raw :: (Kd.raw :: (Kd.raw :: [])))) (aggOf v54)))))
                              (loadT En 32 x9 x9o)))
                            (storeT En 4 (blkOf v52) (((offOf v52) + 0) + 1) (Value.bool Bool.true)))
                          Prog.fail
                          (isPt v52)))
                        (loadT En 70 x1 x1o))
                      (callP (fun v58 =>
                        (callP (fun v59 =>
                          (callP (fun v60 =>
                            (callP (fun v61 =>
                              (callP (fun v62 =>
                                (cnd
                                  (Prog.call (callF En (runP En f) 82 [(Value.pointer (Option.some (Addr.mk (blkOf v62) ((offOf v62) + 0) Option.none))), (Value.string (mkStr [32]))]) fun v63 =>
                                    (cnd
                                      (cnd
                                        (callP (fun v64 =>
                                          (cnd
                                            (Prog.call (callF En (runP En f) 145 [(Value.agg ⟨((Value.int IntKind.i64 (intOf (at_ (aggOf v64) 0))) :: ((at_ (aggOf v64) 1) :: ((at_ (aggOf v64) 2) :: ((at_ (aggOf v64) 3) :: []))))⟩)]) fun v65 =>
                                              (cnd
                                                (callP (fun v66 =>
                                                  (Prog.call (loadT En 32 x2 x2o) fun v67 =>
                                                    (frzT En 32 v67 fun v68 =>
                                                      (Prog.ret v68))))
                                                  (storeT En 32 x2 x2o (Value.agg ⟨((Value.int IntKind.i64 (intOf (at_ (aggOf v65) 0))) :: ((lstV (elems (at_ (aggOf v65) 1))) :: ((lstV (elems (at_ (aggOf v65) 2))) :: ((lstV (elems (at_ (aggOf v65) 3))) :: []))))⟩)))
                                                Prog.fail
                                                ((isAggV v65) && (okKs ((Kd.int IntKind.i64) :: (Kd.lst :: (Kd.lst :: (Kd.lst :: [])))) (aggOf v65)))))
                                            Prog.fail
                                            ((isAggV v64) && (okKs ((Kd.int IntKind.i64) :: (Kd.raw :: (Kd.raw :: (Kd.raw :: [])))) (aggOf v64)))))
                                          (loadT En 32 x9 x9o))
                                        (Prog.call (callF En (runP En f) 146 [(Value.pointer (Option.some (Addr.mk x3_0 x3_0o Option.none)))]) fun v69 =>
                                          (cnd
                                            (p90_14 f x1 x1o x2 x2o x3_0 x3_0o (strOf v69) x9 x9o)
                                            Prog.fail
                                            (okK Kd.str v69)))
                                        (Bool.not (boolOf v63)))
                                      Prog.fail
                                      (okK Kd.bool v63)))
                                  Prog.fail
                                  (isPt v62)))
                                (loadT En 70 x1 x1o)))
                              (storeT En 28 x9 (x9o + 1) v60)))
                            (builtinA En Builtin.append (28 :: (28 :: [])) (v59 :: ((xlstV ((Value.int IntKind.i64 (intOf (at_ (tupOf v42) 1))) :: [])) :: [])))))
                          (loadT En 28 x9 (x9o + 1))))
                        (storeT En 3 x9 (x9o + 0) (Value.int IntKind.i64 (intOf (at_ (tupOf v42) 0)))))
                      (Bool.not (decide ((intOf (at_ (tupOf v42) 0)) = (intOf v51)))))
                    Prog.fail
                    (okK (Kd.int IntKind.i64) v51)))
                  (loadT En 3 x9 (x9o + 0)))
                (callP (fun v70 =>
                  (callP (fun v71 =>
                    (callP (fun v72 =>
                      (callP (fun v73 =>
                        (callP (fun v74 =>
                          (cnd
                            (Prog.call (callF En (runP En f) 82 [(Value.pointer (Option.some (Addr.mk (blkOf v74) ((offOf v74) + 0) Option.none))), (Value.string (mkStr [32]))]) fun v75 =>
                              (cnd
                                (cnd
                                  (callP (fun v76 =>
                                    (cnd
                                      (Prog.call (callF En (runP En f) 145 [(Value.agg ⟨((Value.int IntKind.i64 (intOf (at_ (aggOf v76) 0))) :: ((at_ (aggOf v76) 1) :: ((at_ (aggOf v76) 2) :: ((at_ (aggOf v76) 3) :: []))))⟩)]) fun v77 =>
                                        (cnd
                                          (callP (fun v78 =>
                                            (Prog.call (loadT En 32 x2 x2o) fun v79 =>
                                              (frzT En 32 v79 fun v80 =>
                                                (Prog.ret v80))))
                                            (storeT En 32 x2 x2o (Value.agg ⟨((Value.int IntKind.i64 (intOf (at_ (aggOf v77) 0))) :: ((lstV (elems (at_ (aggOf v77) 1))) :: ((lstV (elems (at_ (aggOf v77) 2))) :: ((lstV (elems (at_ (aggOf v77) 3))) :: []))))⟩)))
                                          Prog.fail
                                          ((isAggV v77) && (okKs ((Kd.int IntKind.i64) :: (Kd.lst :: (Kd.lst :: (Kd.lst :: [])))) (aggOf v77)))))
                                      Prog.fail
                                      ((isAggV v76) && (okKs ((Kd.int IntKind.i64) :: (Kd.raw :: (Kd.raw :: (Kd.raw :: [])))) (aggOf v76)))))
                                    (loadT En 32 x9 x9o))
                                  (Prog.call (callF En (runP En f) 146 [(Value.pointer (Option.some (Addr.mk x3_0 x3_0o Option.none)))]) fun v81 =>
                                    (cnd
                                      (p90_14 f x1 x1o x2 x2o x3_0 x3_0o (strOf v81) x9 x9o)
                                      Prog.fail
                                      (okK Kd.str v81)))
                                  (Bool.not (boolOf v75)))
                                Prog.fail
                                (okK Kd.bool v75)))
                            Prog.fail
                            (isPt v74)))
                          (loadT En 70 x1 x1o)))
                        (storeT En 28 x9 (x9o + 1) v72)))
                      (builtinA En Builtin.append (28 :: (28 :: [])) (v71 :: ((xlstV ((Value.int IntKind.i64 (intOf (at_ (tupOf v42) 1))) :: [])) :: [])))))
                    (loadT En 28 x9 (x9o + 1))))
                  (storeT En 3 x9 (x9o + 0) (Value.int IntKind.i64 (intOf (at_ (tupOf v42) 0)))))
                (decide ((intOf v50) > (0 : Int))))
              Prog.fail
              (okK (Kd.int IntKind.i64) v50)))
            (builtinA En Builtin.len (28 :: []) (v49 :: []))))
          (loadT En 28 x9 (x9o + 1)))
        (Bool.not (boolOf (at_ (tupOf v42) 2))))
      Prog.fail
      ((isTupV v42) && (okNs ((Nm.one (Kd.int IntKind.i64)) :: ((Nm.one (Kd.int IntKind.i64)) :: ((Nm.one Kd.bool) :: []))) (tupOf v42))))) := by kernel_rfl
theorem f90_eq (f : Nat) (x0 : Nat) : callF En (runP En (f + 1)) 90 [(Value.pointer (Option.some (Addr.mk x0 0 Option.none)))] =
  (gd Bool.true
    (callP (fun v83 =>
      (cnd
        (callP (fun v85 =>
          (cnd
            (Prog.call (callF En (runP En f) 146 [(Value.pointer (Option.some (Addr.mk (blkOf v83) (offOf v83) Option.none)))]) fun v86 =>
              (cnd
                (Prog.call (callF En (runP En f) 117 [(Value.string (strOf v86)), (Value.string (mkStr [98]))]) fun v87 =>
                  (cnd
                    (cnd
                      (Prog.call (callF En (runP En f) 144 [(Value.int IntKind.i64 (1 : Int))]) fun v88 =>
                        (callP (fun v90 =>
                          (cnd
                            (callP (fun v91 =>
                              (p90_7 f (blkOf v83) (offOf v83) (blkOf v85) (offOf v85) (strOf (at_ (tupOf v87) 0)) (blkOf v90) (offOf v90) (Int.ofNat (List.length (Array.toList (ByteArray.data (strOf (at_ (tupOf v87) 0)))))) (0 : Int)))
                              (storeT En 32 (blkOf v90) (offOf v90) v88))
                            Prog.fail
                            (isPt v90)))
                          (Prog.newH (Hdr.mk 4 32 Bool.false Bool.true Bool.true 0 Bool.false Bool.false []) ((Value.int IntKind.i64 (0 : Int)) :: ((Value.slice Option.none 0 0) :: ((Value.slice Option.none 0 0) :: ((Value.slice Option.none 0 0) :: [])))) (fun z89 => (Prog.ret (itP z89))))))
                      (gd Bool.true
                        (callP (fun v93 =>
                          (cnd
                            (callP (fun v94 =>
                              (p90_14 f (blkOf v83) (offOf v83) (blkOf v85) (offOf v85) (blkOf v83) (offOf v83) (strOf v86) (blkOf v93) (offOf v93)))
                              (storeT En 32 (blkOf v93) (offOf v93) (Value.agg ⟨((Value.int IntKind.i64 (0 : Int)) :: ((Value.slice Option.none 0 0) :: ((Value.slice Option.none 0 0) :: ((Value.slice Option.none 0 0) :: []))))⟩)))
                            Prog.fail
                            (isPt v93)))
                          (Prog.newH (Hdr.mk 4 32 Bool.false Bool.true Bool.true 0 Bool.false Bool.false []) ((Value.int IntKind.i64 (0 : Int)) :: ((Value.slice Option.none 0 0) :: ((Value.slice Option.none 0 0) :: ((Value.slice Option.none 0 0) :: [])))) (fun z92 => (Prog.ret (itP z92))))))
                      (boolOf (at_ (tupOf v87) 1)))
                    Prog.fail
                    ((isTupV v87) && (okNs ((Nm.one Kd.str) :: ((Nm.one Kd.bool) :: [])) (tupOf v87)))))
                Prog.fail
                (okK Kd.str v86)))
            Prog.fail
            (isPt v85)))
          (Prog.newH (Hdr.mk 4 32 Bool.false Bool.true Bool.true 0 Bool.false Bool.false []) ((Value.int IntKind.i64 (0 : Int)) :: ((Value.slice Option.none 0 0) :: ((Value.slice Option.none 0 0) :: ((Value.slice Option.none 0 0) :: [])))) (fun z84 => (Prog.ret (itP z84)))))
        Prog.fail
        (isPt v83)))
      (Prog.newH (Hdr.mk 1 70 Bool.false Bool.true Bool.true 0 Bool.false Bool.false []) ((Value.pointer (Option.some (Addr.mk x0 0 Option.none))) :: []) (fun z82 => (Prog.ret (itP z82)))))) := by kernel_rfl
end Go.Proofs.YtmjbmbmnnephjaaGreatDoor
/- What comes of the points of a function: printed by the tool. -/
namespace Go.Proofs.YtmjbmbmnnephjaaGreatDoor
open Go Go.Ev Go.Proofs
set_option maxRecDepth 8000
set_option linter.unusedVariables false
theorem f103_eq (f : Nat) (x0_0 : Int) (x0_1 : List Value) (x0_2 : List Value) (x0_3 : List Value) : callF En (runP En (f + 1)) 103 [(Value.agg ⟨((Value.int IntKind.i64 x0_0) :: ((lstV x0_1) :: ((lstV x0_2) :: ((lstV x0_3) :: []))))⟩)] =
  (gd Bool.true
    (callP (fun v19 =>
      (cnd
        (callP (fun v20 =>
          (cnd
            (cnd
              (callP (fun v21 =>
                (cnd
                  (Prog.ret (Value.int IntKind.i64 (Int.ofNat (List.length (elems v21)))))
                  Prog.fail
                  (isLst v21)))
                (loadT En 29 (blkOf v19) ((offOf v19) + 2)))
              (callP (fun v22 =>
                (cnd
                  (Prog.call (callF En (runP En f) 160 [(Value.int IntKind.i64 (intOf v22))]) fun v23 =>
                    (cnd
                      (cnd
                        (callP (fun v24 =>
                          (cnd
                            (Prog.ret (Value.int IntKind.i64 (Int.ofNat (List.length (elems v24)))))
                            Prog.fail
                            (isLst v24)))
                          (loadT En 28 (blkOf v19) ((offOf v19) + 1)))
                        (callP (fun v25 =>
                          (cnd
                            (cnd
                              (callP (fun v26 =>
                                (cnd
                                  (Prog.ret (Value.int IntKind.i64 (Int.ofNat (List.length (elems v26)))))
                                  Prog.fail
                                  (isLst v26)))
                                (loadT En 30 (blkOf v19) ((offOf v19) + 3)))
                              (callP (fun v27 =>
                                (cnd
                                  (cnd
                                    (callP (fun v28 =>
                                      (cnd
                                        (cnd
                                          (callP (fun v29 =>
                                            (cnd
                                              (cnd
                                                (cnd
                                                  (cnd
                                                    (Prog.call (callF En (runP En f) 103 [(Value.agg ⟨((Value.int IntKind.i64 (intOf (at_ (List.take 4 (Array.toList (Value.cells (at_ (elems v29) 0)))) 0))) :: ((lstV (elems (at_ (List.take 4 (Array.toList (Value.cells (at_ (elems v29) 0)))) 1))) :: ((lstV (elems (at_ (List.take 4 (Array.toList (Value.cells (at_ (elems v29) 0)))) 2))) :: ((lstV (elems (at_ (List.take 4 (Array.toList (Value.cells (at_ (elems v29) 0)))) 3))) :: []))))⟩)]) fun v30 =>
                                                      (cnd
                                                        (Prog.ret (Value.int IntKind.i64 (intOf v30)))
                                                        Prog.fail
                                                        (okK (Kd.int IntKind.i64) v30)))
                                                    Prog.fail
                                                    (okKs ((Kd.int IntKind.i64) :: (Kd.lst :: (Kd.lst :: (Kd.lst :: [])))) (List.take 4 (Array.toList (Value.cells (at_ (elems v29) 0))))))
                                                  Prog.fail
                                                  (Nat.ble 4 (List.length (Array.toList (Value.cells (at_ (elems v29) 0))))))
                                                Prog.fail
                                                (((Nat.ble 1 (List.length (elems v29))) && Bool.true) && (hdOk 4 (elems v29))))
                                              Prog.fail
                                              (isLst v29)))
                                            (loadT En 30 (blkOf v19) ((offOf v19) + 3)))
                                          (Prog.ret (Value.int IntKind.i64 (1 : Int)))
                                          (decide ((Int.ofNat (List.length (elems v28))) > (0 : Int))))
                                        Prog.fail
                                        (isLst v28)))
                                      (loadT En 30 (blkOf v19) ((offOf v19) + 3)))
                                    (callP (fun v31 =>
                                      (cnd
                                        (cnd
                                          (callP (fun v32 =>
                                            (cnd
                                              (cnd
                                                (callP (fun v33 =>
                                                  (cnd
                                                    (cnd
                                                      (cnd
                                                        (cnd
                                                          (Prog.call (callF En (runP En f) 103 [(Value.agg ⟨((Value.int IntKind.i64 (intOf (at_ (List.take 4 (Array.toList (Value.cells (at_ (elems v33) 0)))) 0))) :: ((lstV (elems (at_ (List.take 4 (Array.toList (Value.cells (at_ (elems v33) 0)))) 1))) :: ((lstV (elems (at_ (List.take 4 (Array.toList (Value.cells (at_ (elems v33) 0)))) 2))) :: ((lstV (elems (at_ (List.take 4 (Array.toList (Value.cells (at_ (elems v33) 0)))) 3))) :: []))))⟩)]) fun v34 =>
                                                            (cnd
                                                              (Prog.ret (Value.int IntKind.i64 (intOf v34)))
                                                              Prog.fail
                                                              (okK (Kd.int IntKind.i64) v34)))
                                                          Prog.fail
                                                          (okKs ((Kd.int IntKind.i64) :: (Kd.lst :: (Kd.lst :: (Kd.lst :: [])))) (List.take 4 (Array.toList (Value.cells (at_ (elems v33) 0))))))
                                                        Prog.fail
                                                        (Nat.ble 4 (List.length (Array.toList (Value.cells (at_ (elems v33) 0))))))
                                                      Prog.fail
                                                      (((Nat.ble 1 (List.length (elems v33))) && Bool.true) && (hdOk 4 (elems v33))))
                                                    Prog.fail
                                                    (isLst v33)))
                                                  (loadT En 30 (blkOf v19) ((offOf v19) + 3)))
                                                (Prog.ret (Value.int IntKind.i64 (1 : Int)))
                                                (decide ((Int.ofNat (List.length (elems v32))) > (0 : Int))))
                                              Prog.fail
                                              (isLst v32)))
                                            (loadT En 30 (blkOf v19) ((offOf v19) + 3)))
                                          (Prog.ret (Value.int IntKind.i64 (1 : Int)))
                                          (decide ((intOf v31) = (99 : Int))))
                                        Prog.fail
                                        (okK (Kd.int IntKind.i64) v31)))
                                      (loadT En 3 (blkOf v19) ((offOf v19) + 0)))
                                    (decide ((intOf v27) = (98 : Int))))
                                  Prog.fail
                                  (okK (Kd.int IntKind.i64) v27)))
                                (loadT En 3 (blkOf v19) ((offOf v19) + 0)))
                              (decide ((intOf v25) = (0 : Int))))
                            Prog.fail
                            (okK (Kd.int IntKind.i64) v25)))
                          (loadT En 3 (blkOf v19) ((offOf v19) + 0)))
                        (boolOf v23))
                      Prog.fail
                      (okK Kd.bool v23)))
                  Prog.fail
                  (okK (Kd.int IntKind.i64) v22)))
                (loadT En 3 (blkOf v19) ((offOf v19) + 0)))
              (decide ((intOf v20) = (3 : Int))))
            Prog.fail
            (okK (Kd.int IntKind.i64) v20)))
          (loadT En 3 (blkOf v19) ((offOf v19) + 0)))
        Prog.fail
        (isPt v19)))
      (Prog.newH (Hdr.mk 4 32 Bool.false Bool.true Bool.true 0 Bool.false Bool.false []) ((Value.int IntKind.i64 x0_0) :: ((lstV x0_1) :: ((lstV x0_2) :: ((lstV x0_3) :: [])))) (fun z18 => (Prog.ret (itP z18)))))) := by kernel_rfl
end Go.Proofs.YtmjbmbmnnephjaaGreatDoor
/- What comes of the points of a function: printed by the tool. -/
namespace Go.Proofs.YtmjbmbmnnephjaaGreatDoor
open Go Go.Ev Go.Proofs
set_option maxRecDepth 8000
set_option linter.unusedVariables false
theorem f104_eq (f : Nat) (x0_0 : Int) (x0_1 : List Value) (x0_2 : List Value) (x0_3 : List Value) : callF En (runP En (f + 1)) 104 [(Value.agg ⟨((Value.int IntKind.i64 x0_0) :: ((lstV x0_1) :: ((lstV x0_2) :: ((lstV x0_3) :: []))))⟩)] =
  (gd Bool.true
    (callP (fun v6 =>
      (cnd
        (callP (fun v7 =>
          (cnd
            (cnd
              (callP (fun v8 =>
                (cnd
                  (Prog.ret (Value.bool (decide ((intOf v8) ≥ (-5 : Int)))))
                  Prog.fail
                  (okK (Kd.int IntKind.i64) v8)))
                (loadT En 3 (blkOf v6) ((offOf v6) + 0)))
              (Prog.ret (Value.bool Bool.false))
              (decide ((intOf v7) < (0 : Int))))
            Prog.fail
            (okK (Kd.int IntKind.i64) v7)))
          (loadT En 3 (blkOf v6) ((offOf v6) + 0)))
        Prog.fail
        (isPt v6)))
      (Prog.newH (Hdr.mk 4 32 Bool.false Bool.true Bool.true 0 Bool.false Bool.false []) ((Value.int IntKind.i64 x0_0) :: ((lstV x0_1) :: ((lstV x0_2) :: ((lstV x0_3) :: [])))) (fun z5 => (Prog.ret (itP z5)))))) := by kernel_rfl
end Go.Proofs.YtmjbmbmnnephjaaGreatDoor
/- What comes of the points of a function: printed by the tool. -/
namespace Go.Proofs.YtmjbmbmnnephjaaGreatDoor
open Go Go.Ev Go.Proofs
set_option maxRecDepth 8000
set_option linter.unusedVariables false
theorem f105_eq (f : Nat) (x0 : Nat) (x1_0 : Int) (x1_1 : List Value) (x1_2 : List Value) (x1_3 : List Value) : callF En (runP En (f + 1)) 105 [(Value.pointer (Option.some (Addr.mk x0 0 Option.none))), (Value.agg ⟨((Value.int IntKind.i64 x1_0) :: ((lstV x1_1) :: ((lstV x1_2) :: ((lstV x1_3) :: []))))⟩)] =
  (gd Bool.true
    (callP (fun v16 =>
      (cnd
        (callP (fun v17 =>
          (cnd
            (cnd
              (callP (fun v18 =>
                (cnd
                  (cnd
                    (cnd
                      (cnd
                        (Prog.call (callF En (runP En f) 161 [(Value.string (strOf (List.headD (Array.toList (Value.cells (at_ (elems v18) 0))) (Value.tuple ⟨[]⟩))))]) fun v19 =>
                          (cnd
                            (Prog.call (callF En (runP En f) 78 [(Value.pointer (Option.some (Addr.mk x0 0 Option.none))), (Value.string (strOf v19))]) fun v20 =>
                              (cnd
                                (Prog.ret (Value.tuple ⟨[]⟩))
                                Prog.fail
                                ((isTupV v20) && (okNs ((Nm.one (Kd.int IntKind.i64)) :: ((Nm.one Kd.raw) :: [])) (tupOf v20)))))
                            Prog.fail
                            (okK Kd.str v19)))
                        Prog.fail
                        (okK Kd.str (List.headD (Array.toList (Value.cells (at_ (elems v18) 0))) (Value.tuple ⟨[]⟩))))
                      Prog.fail
                      (Nat.ble 1 (List.length (Array.toList (Value.cells (at_ (elems v18) 0))))))
                    Prog.fail
                    (((Nat.ble 1 (List.length (elems v18))) && Bool.true) && (hdOk 1 (elems v18))))
                  Prog.fail
                  (isLst v18)))
                (loadT En 29 (blkOf v16) ((offOf v16) + 2)))
              (Prog.seg (loadT En 3 (blkOf v16) ((offOf v16) + 0)) fun v21 s22 _ =>
                (cnd
                  (Prog.seg (loadT En 28 (blkOf v16) ((offOf v16) + 1)) fun v23 s24 _ =>
                    (gdL 8 (writesOf s24) s24 [⟨2, writesOf s22, s22⟩]
                      (cnd
                        (cnd
                          (cnd
                            (cnd
                              (Prog.seg (callF En (runP En f) 31 [(Value.int IntKind.i64 (intOf v21)), (Value.int IntKind.i64 (intOf (List.headD (Array.toList (Value.cells (at_ (elems v23) 0))) (Value.tuple ⟨[]⟩))))]) fun v25 s26 _ =>
                                (gdL 126 (writesOf s26) s26 [⟨4, writesOf s24, s24⟩, ⟨2, writesOf s22, s22⟩]
                                  (cnd
                                    (Prog.seg (callF En (runP En f) 78 [(Value.pointer (Option.some (Addr.mk x0 0 Option.none))), (Value.string (strOf v25))]) fun v27 s28 _ =>
                                      (gdL 255 (writesOf s28) s28 [⟨7, writesOf s26, s26⟩, ⟨4, writesOf s24, s24⟩, ⟨2, writesOf s22, s22⟩]
                                        (cnd
                                          (Prog.ret (Value.tuple ⟨[]⟩))
                                          Prog.fail
                                          ((isTupV v27) && (okNs ((Nm.one (Kd.int IntKind.i64)) :: ((Nm.one Kd.raw) :: [])) (tupOf v27))))))
                                    Prog.fail
                                    (okK Kd.str v25))))
                              Prog.fail
                              (okK (Kd.int IntKind.i64) (List.headD (Array.toList (Value.cells (at_ (elems v23) 0))) (Value.tuple ⟨[]⟩))))
                            Prog.fail
                            (Nat.ble 1 (List.length (Array.toList (Value.cells (at_ (elems v23) 0))))))
                          Prog.fail
                          (((Nat.ble 1 (List.length (elems v23))) && Bool.true) && (hdOk 1 (elems v23))))
                        Prog.fail
                        (isLst v23))))
                  Prog.fail
                  (okK (Kd.int IntKind.i64) v21)))
              (decide ((intOf v17) = (-3 : Int))))
            Prog.fail
            (okK (Kd.int IntKind.i64) v17)))
          (loadT En 3 (blkOf v16) ((offOf v16) + 0)))
        Prog.fail
        (isPt v16)))
      (Prog.newH (Hdr.mk 4 32 Bool.false Bool.true Bool.true 0 Bool.false Bool.false []) ((Value.int IntKind.i64 x1_0) :: ((lstV x1_1) :: ((lstV x1_2) :: ((lstV x1_3) :: [])))) (fun z15 => (Prog.ret (itP z15)))))) := by kernel_rfl
end Go.Proofs.YtmjbmbmnnephjaaGreatDoor
/- What comes of the points of a function: printed by the tool. -/
namespace Go.Proofs.YtmjbmbmnnephjaaGreatDoor
open Go Go.Ev Go.Proofs
set_option maxRecDepth 8000
set_option linter.unusedVariables false
noncomputable def p112_1 (f : Nat) (x0 : ByteArray) (x1 : Int) : Prog := runP En f 112 (tmL 23 [(0, (Value.string x0)), (1, (Value.int IntKind.u8 x1))]) [.code (cL (cL (cI (cI (cL (cR (cB 112))))))), .code (cR (cL (cI (cI (cL (cR (cB 112))))))), .code (cR (cI (cI (cL (cR (cB 112)))))), .inLoop (cI (cI (cL (cR (cB 112))))), .inBlock 0, .code (cR (cR (cB 112)))] [] none
theorem p112_1_eq (f : Nat) (x0 : ByteArray) (x1 : Int) : p112_1 (f + 1) x0 x1 =
  (cnd
    (cnd
      (cnd
        (cnd
          (cnd
            (cnd
              (p112_1 f (mkStr (List.take ((Int.toNat (IntKind.wrap IntKind.i64 (Int.subNatNat (List.length (Array.toList (ByteArray.data x0))) 1))) - 0) (Array.toList (ByteArray.data x0)))) x1)
              Prog.fail
              ((Nat.ble 0 (Int.toNat (IntKind.wrap IntKind.i64 (Int.subNatNat (List.length (Array.toList (ByteArray.data x0))) 1)))) && (Nat.ble (Int.toNat (IntKind.wrap IntKind.i64 (Int.subNatNat (List.length (Array.toList (ByteArray.data x0))) 1))) (List.length (Array.toList (ByteArray.data x0))))))
            Prog.fail
            (decide ((0 : Int) ≤ (IntKind.wrap IntKind.i64 (Int.subNatNat (List.length (Array.toList (ByteArray.data x0))) 1)))))
          (Prog.ret (Value.string x0))
          (decide ((Int.ofNat (byteAt x0 (Int.toNat (IntKind.wrap IntKind.i64 (Int.subNatNat (List.length (Array.toList (ByteArray.data x0))) 1))))) = x1)))
        Prog.fail
        (Nat.ble (Nat.succ (Int.toNat (IntKind.wrap IntKind.i64 (Int.subNatNat (List.length (Array.toList (ByteArray.data x0))) 1)))) (List.length (Array.toList (ByteArray.data x0)))))
      Prog.fail
      (decide ((0 : Int) ≤ (IntKind.wrap IntKind.i64 (Int.subNatNat (List.length (Array.toList (ByteArray.data x0))) 1)))))
    (Prog.ret (Value.string x0))
    (decide ((Int.ofNat (List.length (Array.toList (ByteArray.data x0)))) > (0 : Int)))) := by kernel_rfl
theorem f112_eq (f : Nat) (x0 : ByteArray) (x1 : Int) : callF En (runP En (f + 1)) 112 [(Value.string x0), (Value.int IntKind.u8 x1)] =
  (p112_1 f x0 x1) := by kernel_rfl
end Go.Proofs.YtmjbmbmnnephjaaGreatDoor
/- What comes of the points of a function: printed by the tool. -/
namespace Go.Proofs.YtmjbmbmnnephjaaGreatDoor
open Go Go.Ev Go.Proofs
set_option maxRecDepth 8000
set_option linter.unusedVariables false
noncomputable def p113_2 (f : Nat) (x0 : ByteArray) (x2 : Nat) (x2o : Nat) (x4 : Int) : Prog := runP En f 113 (tmL 21 [(0, (Value.string x0)), (2, (Value.pointer (Option.some (Addr.mk x2 x2o Option.none)))), (4, (Value.int IntKind.i64 x4))]) [.code (cL (cL (cI (cI (cR (cL (cR (cB 113)))))))), .code (cR (cL (cI (cI (cR (cL (cR (cB 113)))))))), .code (cR (cI (cI (cR (cL (cR (cB 113))))))), .inLoop (cI (cI (cR (cL (cR (cB 113)))))), .inBlock 0, .code (cR (cR (cB 113)))] [] none
theorem p113_2_eq (f : Nat) (x0 : ByteArray) (x2 : Nat) (x2o : Nat) (x4 : Int) : p113_2 (f + 1) x0 x2 x2o x4 =
  (cnd
    (cnd
      (cnd
        (cnd
          (callP (fun v3 =>
            (callP (fun v4 =>
              (Prog.call (loadT En 116 x2 x2o) fun v5 =>
                (Prog.ret (Value.tuple ⟨(v5 :: ((Value.bool Bool.false) :: []))⟩))))
              (storeT En 116 x2 x2o v3)))
            (loadT En 116 x2 x2o))
          (cnd
            (callP (fun v6 =>
              (p113_2 f x0 x2 x2o (IntKind.wrap IntKind.i64 (x4 + (1 : Int)))))
              (storeT En 4 x2 (x2o + ((byteAt x0 (Int.toNat x4)) * 1)) (Value.bool Bool.true)))
            Prog.fail
            ((Nat.ble (Nat.succ (byteAt x0 (Int.toNat x4))) 256) && Bool.true))
          (decide ((Int.ofNat (byteAt x0 (Int.toNat x4))) ≥ (128 : Int))))
        Prog.fail
        (Nat.ble (Nat.succ (Int.toNat x4)) (List.length (Array.toList (ByteArray.data x0)))))
      Prog.fail
      (decide ((0 : Int) ≤ x4)))
    (callP (fun v7 =>
      (callP (fun v8 =>
        (Prog.call (loadT En 116 x2 x2o) fun v9 =>
          (Prog.ret (Value.tuple ⟨(v9 :: ((Value.bool Bool.true) :: []))⟩))))
        (storeT En 116 x2 x2o v7)))
      (loadT En 116 x2 x2o))
    (decide (x4 < (Int.ofNat (List.length (Array.toList (ByteArray.data x0))))))) := by kernel_rfl
theorem f113_eq (f : Nat) (x0 : ByteArray) : callF En (runP En (f + 1)) 113 [(Value.string x0)] =
  (callP (fun v11 =>
    (cnd
      (p113_2 f x0 (blkOf v11) (offOf v11) (0 : Int))
      Prog.fail
      (isPt v11)))
    (Prog.newH (Hdr.mk 256 116 Bool.false Bool.true Bool.true 0 Bool.false Bool.false []) ((Value.bool Bool.false) :: ((Value.bool Bool.false) :: ((Value.bool Bool.false) :: ((Value.bool Bool.false) :: ((Value.bool Bool.false) :: ((Value.bool Bool.false) :: ((Value.bool Bool.false) :: ((Value.bool Bool.false) :: ((Value.bool Bool.false) :: ((Value.bool Bool.false) :: ((Value.bool Bool.false) :: ((Value.bool Bool.false) :: ((Value.bool Bool.false) :: ((Value.bool Bool.false) :: ((Value.bool Bool.false) :: ((Value.bool Bool.false) :: ((Value.bool Bool.false) :: ((Value.bool Bool.false) :: ((Value.bool Bool.false) :: ((Value.bool Bool.false) :: ((Value.bool Bool.false) :: ((Value.bool Bool.false) :: ((Value.bool Bool.false) :: ((Value.bool Bool.false) :: ((Value.bool Bool.false) :: ((Value.bool Bool.false) :: ((Value.bool Bool.false) :: ((Value.bool Bool.false) :: ((Value.bool Bool.false) :: ((Value.bool Bool.false) :: ((Value.bool Bool.false) :: ((Value.bool Bool.false) :: ((Value.bool Bool.false) :: ((Value.bool Bool.false) :: ((Value.bool Bool.false) :: ((Value.bool Bool.false) :: ((Value.bool Bool.false) :: ((Value.bool Bool.false) :: ((Value.bool Bool.false) :: ((Value.bool Bool.false) :: ((Value.bool Bool.false) :: ((Value.bool Bool.false) :: ((Value.bool Bool.false) :: ((Value.bool Bool.false) :: ((Value.bool Bool.false) :: ((Value.bool Bool.false) :: ((Value.bool Bool.false) :: ((Value.bool Bool.false) :: ((Value.bool Bool.false) :: ((Value.bool Bool.false) :: ((Value.bool Bool.false) :: ((Value.bool Bool.false) :: ((Value.bool Bool.false) :: ((Value.bool Bool.false) :: ((Value.bool Bool.false) :: ((Value.bool Bool.false) :: ((Value.bool Bool.false) :: ((Value.bool Bool.false) :: ((Value.bool Bool.false) :: ((Value.bool Bool.false) :: ((Value.bool Bool.false) :: ((Value.bool Bool.false) :: ((Value.bool Bool.false) :: ((Value.bool Bool.false) :: ((Value.bool Bool.false) :: ((Value.bool Bool.false) :: ((Value.bool Bool.false) :: ((Value.bool Bool.false) :: ((Value.bool Bool.false) :: ((Value.bool Bool.false) :: ((Value.bool Bool.false) :: ((Value.bool Bool.false) :: ((Value.bool Bool.false) :: ((Value.bool Bool.false) :: ((Value.bool Bool.false) :: ((Value.bool Bool.false) :: ((Value.bool Bool.false) :: ((Value.bool Bool.false) :: ((Value.bool Bool.false) :: ((Value.bool Bool.false) :: ((Value.bool Bool.false) :: ((Value.bool Bool.false) :: ((Value.bool Bool.false) :: ((Value.bool Bool.false) :: ((Value.bool Bool.false) :: ((Value.bool Bool.false) :: ((Value.bool Bool.false) :: ((Value.bool Bool.false) :: ((Value.bool Bool.false) :: ((Value.bool Bool.false) :: ((Value.bool Bool.false) :: ((Value.bool Bool.false) :: ((Value.bool Bool.false) :: ((Value.bool Bool.false) :: ((Value.bool Bool.false) :: ((Value.bool Bool.false) :: ((Value.bool Bool.false) :: ((Value.bool Bool.false) :: ((Value.bool Bool.false) :: ((Value.bool Bool.false) :: ((Value.bool Bool.false) :: ((Value.bool Bool.false) :: ((Value.bool Bool.false) :: ((Value.bool Bool.false) :: ((Value.bool Bool.false) :: ((Value.bool Bool.false) :: ((Value.bool Bool.false) :: ((Value.bool Bool.false) :: ((Value.bool Bool.false) :: ((Value.bool Bool.false) :: ((Value.bool Bool.false) :: ((Value.bool Bool.false) :: ((Value.bool Bool.false) :: ((Value.bool Bool.false) :: ((Value.bool Bool.false) :: ((Value.bool Bool.false) :: ((Value.bool Bool.false) :: ((Value.bool Bool.false) :: ((Value.bool Bool.false) :: ((Value.bool Bool.false) :: ((Value.bool Bool.false) :: ((Value.bool Bool.false) :: ((Value.bool Bool.false) :: ((Value.bool Bool.false) :: ((Value.bool Bool.false) :: ((Value.bool Bool.false) :: ((Value.bool Bool.false) :: ((Value.bool Bool.false) :: ((Value.bool Bool.false) :: ((Value.bool Bool.false) :: ((Value.bool Bool.false) :: ((Value.bool Bool.false) :: ((Value.bool Bool.false) :: ((Value.bool Bool.false) :: ((Value.bool Bool.false) :: ((Value.bool Bool.false) :: ((Value.bool Bool.false) :: ((Value.bool Bool.false) :: ((Value.bool Bool.false) :: ((Value.bool Bool.false) :: ((Value.bool Bool.false) :: ((Value.bool Bool.false) :: ((Value.bool Bool.false) :: ((Value.bool Bool.false) :: ((Value.bool Bool.false) :: ((Value.bool Bool.false) :: ((Value.bool Bool.false) :: ((Value.bool Bool.false) :: ((Value.bool Bool.false) :: ((Value.bool Bool.false) :: ((Value.bool Bool.false) :: ((Value.bool Bool.false) :: ((Value.bool Bool.false) :: ((Value.bool Bool.false) :: ((Value.bool Bool.false) :: ((Value.bool Bool.false) :: ((Value.bool Bool.false) :: ((Value.bool Bool.false) :: ((Value.bool Bool.false) :: ((Value.bool Bool.false) :: ((Value.bool Bool.false) :: ((Value.bool Bool.false) :: ((Value.bool Bool.false) :: ((Value.bool Bool.false) :: ((Value.bool Bool.false) :: ((Value.bool Bool.false) :: ((Value.bool Bool.false) :: ((Value.bool Bool.false) :: ((Value.bool Bool.false) :: ((Value.bool Bool.false) :: ((Value.bool Bool.false) :: ((Value.bool Bool.false) :: ((Value.bool Bool.false) :: ((Value.bool Bool.false) :: ((Value.bool Bool.false) :: ((Value.bool Bool.false) :: ((Value.bool Bool.false) :: ((Value.bool Bool.false) :: ((Value.bool Bool.false) :: ((Value.bool Bool.false) :: ((Value.bool Bool.false) :: ((Value.bool Bool.false) :: ((Value.bool Bool.false) :: ((Value.bool Bool.false) :: ((Value.bool Bool.false) :: ((Value.bool Bool.false) :: ((Value.bool Bool.false) :: ((Value.bool Bool.false) :: ((Value.bool Bool.false) :: ((Value.bool Bool.false) :: ((Value.bool Bool.false) :: ((Value.bool Bool.false) :: ((Value.bool Bool.false) :: ((Value.bool Bool.false) :: ((Value.bool Bool.false) :: ((Value.bool Bool.false) :: ((Value.bool Bool.false) :: ((Value.bool Bool.false) :: ((Value.bool Bool.false) :: ((Value.bool Bool.false) :: ((Value.bool Bool.false) :: ((Value.bool Bool.false) :: ((Value.bool Bool.false) :: ((Value.bool Bool.false) :: ((Value.bool Bool.false) :: ((Value.bool Bool.false) :: ((Value.bool Bool.false) :: ((Value.bool Bool.false) :: ((Value.bool Bool.false) :: ((Value.bool Bool.false) :: ((Value.bool Bool.false) :: ((Value.bool Bool.false) :: ((Value.bool Bool.false) :: ((Value.bool Bool.false) :: ((Value.bool Bool.false) :: ((Value.bool Bool.false) :: ((Value.bool Bool.false) :: ((Value.bool Bool.false) :: ((Value.bool Bool.false) :: ((Value.bool Bool.false) :: ((Value.bool Bool.false) :: ((Value.bool Bool.false) :: ((Value.bool Bool.false) :: ((Value.bool Bool.false) :: ((Value.bool Bool.false) :: ((Value.bool Bool.false) :: ((Value.bool Bool.false) :: ((Value.bool Bool.false) :: ((Value.bool Bool.false) :: ((Value.bool Bool.false) :: ((Value.bool Bool.false) :: ((Value.bool Bool.false) :: ((Value.bool Bool.false) :: ((Value.bool Bool.false) :: ((Value.bool Bool.false) :: ((Value.bool Bool.false) :: ((Value.bool Bool.false) :: ((Value.bool Bool.false) :: ((Value.bool Bool.false) :: ((Value.bool Bool.false) :: ((Value.bool Bool.false) :: ((Value.bool Bool.false) :: ((Value.bool Bool.false) :: ((Value.bool Bool.false) :: ((Value.bool Bool.false) :: ((Value.bool Bool.false) :: ((Value.bool Bool.false) :: ((Value.bool Bool.false) :: ((Value.bool Bool.false) :: ((Value.bool Bool.false) :: ((Value.bool Bool.false) :: ((Value.bool Bool.false) :: ((Value.bool Bool.false) :: ((Value.bool Bool.false) :: ((Value.bool Bool.false) :: ((Value.bool Bool.false) :: [])))))))))))))))))))))))))))))))))))))))))))))))))))))))))))))))))))))))))))))))))))))))))))))))))))))))))))))))))))))))))))))))))))))))))))))))))))))))))))))))))))))))))))))))))))))))))))))))))))))))))))))))))))))))))))))))))))))))))))))))))))))))))))))))) (fun z10 => (Prog.ret (itP z10))))) := by kernel_rfl
end Go.Proofs.YtmjbmbmnnephjaaGreatDoor
/- What comes of the points of a function: printed by the tool. -/
namespace Go.Proofs.YtmjbmbmnnephjaaGreatDoor
open Go Go.Ev Go.Proofs
set_option maxRecDepth 8000
set_option linter.unusedVariables false
noncomputable def p114_1 (f : Nat) (x0 : ByteArray) (x1 : Nat) : Prog := runP En f 114 (tmL 22 [(0, (Value.string x0)), (1, (Value.pointer (Option.some (Addr.mk x1 0 Option.none))))]) [.code (cL (cL (cI (cI (cL (cR (cB 114))))))), .code (cR (cL (cI (cI (cL (cR (cB 114))))))), .code (cR (cI (cI (cL (cR (cB 114)))))), .inLoop (cI (cI (cL (cR (cB 114))))), .inBlock 0, .code (cR (cR (cB 114)))] [] none
noncomputable def p114_4 (f : Nat) (x0 : ByteArray) : Prog := runP En f 114 (tmL 22 [(0, (Value.string x0))]) [.code (cL (cR (cR (cB 114)))), .code (cR (cR (cR (cB 114))))] [] none
theorem p114_1_eq (f : Nat) (x0 : ByteArray) (x1 : Nat) : p114_1 (f + 1) x0 x1 =
  (cnd
    (cnd
      (cnd
        (Prog.call (callF En (runP En f) 171 [(Value.pointer (Option.some (Addr.mk x1 0 Option.none))), (Value.int IntKind.u8 (Int.ofNat (byteAt x0 (Int.toNat (IntKind.wrap IntKind.i64 (Int.subNatNat (List.length (Array.toList (ByteArray.data x0))) 1))))))]) fun v2 =>
          (cnd
            (cnd
              (p114_4 f x0)
              (cnd
                (cnd
                  (p114_1 f (mkStr (List.take ((Int.toNat (IntKind.wrap IntKind.i64 (Int.subNatNat (List.length (Array.toList (ByteArray.data x0))) 1))) - 0) (Array.toList (ByteArray.data x0)))) x1)
                  Prog.fail
                  ((Nat.ble 0 (Int.toNat (IntKind.wrap IntKind.i64 (Int.subNatNat (List.length (Array.toList (ByteArray.data x0))) 1)))) && (Nat.ble (Int.toNat (IntKind.wrap IntKind.i64 (Int.subNatNat (List.length (Array.toList (ByteArray.data x0))) 1))) (List.length (Array.toList (ByteArray.data x0))))))
                Prog.fail
                (decide ((0 : Int) ≤ (IntKind.wrap IntKind.i64 (Int.subNatNat (List.length (Array.toList (ByteArray.data x0))) 1)))))
              (Bool.not (boolOf v2)))
            Prog.fail
            (okK Kd.bool v2)))
        Prog.fail
        (Nat.ble (Nat.succ (Int.toNat (IntKind.wrap IntKind.i64 (Int.subNatNat (List.length (Array.toList (ByteArray.data x0))) 1)))) (List.length (Array.toList (ByteArray.data x0)))))
      Prog.fail
      (decide ((0 : Int) ≤ (IntKind.wrap IntKind.i64 (Int.subNatNat (List.length (Array.toList (ByteArray.data x0))) 1)))))
    (p114_4 f x0)
    (decide ((Int.ofNat (List.length (Array.toList (ByteArray.data x0)))) > (0 : Int)))) := by kernel_rfl
theorem p114_4_eq (f : Nat) (x0 : ByteArray) : p114_4 (f + 1) x0 =
  (Prog.ret (Value.string x0)) := by kernel_rfl
theorem f114_eq (f : Nat) (x0 : ByteArray) (x1 : Nat) : callF En (runP En (f + 1)) 114 [(Value.string x0), (Value.pointer (Option.some (Addr.mk x1 0 Option.none)))] =
  (p114_1 f x0 x1) := by kernel_rfl
end Go.Proofs.YtmjbmbmnnephjaaGreatDoor
/- What comes of the points of a function: printed by the tool. -/
namespace Go.Proofs.YtmjbmbmnnephjaaGreatDoor
open Go Go.Ev Go.Proofs
set_option maxRecDepth 8000
set_option linter.unusedVariables false
theorem f117_eq (f : Nat) (x0 : ByteArray) (x1 : ByteArray) : callF En (runP En (f + 1)) 117 [(Value.string x0), (Value.string x1)] =
  (Prog.call (callF En (runP En f) 174 [(Value.string x0), (Value.string x1)]) fun v2 =>
    (cnd
      (Prog.ret (Value.tuple ⟨((Value.string (strOf (at_ (tupOf v2) 0))) :: ((Value.bool (boolOf (at_ (tupOf v2) 1))) :: []))⟩))
      Prog.fail
      ((isTupV v2) && (okNs ((Nm.one Kd.str) :: ((Nm.one Kd.bool) :: [])) (tupOf v2))))) := by kernel_rfl
end Go.Proofs.YtmjbmbmnnephjaaGreatDoor
/- What comes of the points of a function: printed by the tool. -/
namespace Go.Proofs.YtmjbmbmnnephjaaGreatDoor
open Go Go.Ev Go.Proofs
set_option maxRecDepth 8000
set_option linter.unusedVariables false
theorem f118_eq (f : Nat) (x0 : ByteArray) (x1 : ByteArray) : callF En (runP En (f + 1)) 118 [(Value.string x0), (Value.string x1)] =
  (cnd
    (Prog.ret (Value.string x0))
    (cnd
      (Prog.ret (Value.string x0))
      (cnd
        (cnd
          (cnd
            (cnd
              (Prog.seg (callF En (runP En f) 112 [(Value.string x0), (Value.int IntKind.u8 (Int.ofNat (byteAt x1 0)))]) fun v21 s22 _ =>
                (cnd
                  (cnd
                    (Prog.seg (callF En (runP En f) 175 [(Value.string (strOf v21)), (Value.int IntKind.u8 (Int.ofNat (byteAt x1 0)))]) fun v23 s24 _ =>
                      (gdL 63 (writesOf s24) s24 [⟨3, writesOf s22, s22⟩]
                        (cnd
                          (Prog.ret (Value.string (strOf v23)))
                          Prog.fail
                          (okK Kd.str v23))))
                    Prog.fail
                    (Nat.ble 1 (List.length (Array.toList (ByteArray.data x1)))))
                  Prog.fail
                  (okK Kd.str v21)))
              Prog.fail
              (Nat.ble 1 (List.length (Array.toList (ByteArray.data x1)))))
            (Prog.call (callF En (runP En f) 113 [(Value.string x1)]) fun v25 =>
              (cnd
                (callP (fun v27 =>
                  (cnd
                    (callP (fun v28 =>
                      (cnd
                        (Prog.call (callF En (runP En f) 114 [(Value.string x0), (Value.pointer (Option.some (Addr.mk (blkOf v27) (offOf v27) Option.none)))]) fun v29 =>
                          (cnd
                            (Prog.call (callF En (runP En f) 176 [(Value.string (strOf v29)), (Value.pointer (Option.some (Addr.mk (blkOf v27) (offOf v27) Option.none)))]) fun v30 =>
                              (cnd
                                (Prog.ret (Value.string (strOf v30)))
                                Prog.fail
                                (okK Kd.str v30)))
                            Prog.fail
                            (okK Kd.str v29)))
                        (Prog.call (callF En (runP En f) 115 [(Value.string x0), (Value.string x1)]) fun v31 =>
                          (cnd
                            (Prog.call (callF En (runP En f) 177 [(Value.string (strOf v31)), (Value.string x1)]) fun v32 =>
                              (cnd
                                (Prog.ret (Value.string (strOf v32)))
                                Prog.fail
                                (okK Kd.str v32)))
                            Prog.fail
                            (okK Kd.str v31)))
                        (boolOf (at_ (tupOf v25) 1))))
                      (storeT En 116 (blkOf v27) (offOf v27) (at_ (tupOf v25) 0)))
                    Prog.fail
                    (isPt v27)))
                  (Prog.newH (Hdr.mk 256 116 Bool.false Bool.true Bool.true 0 Bool.false Bool.false []) ((Value.bool Bool.false) :: ((Value.bool Bool.false) :: ((Value.bool Bool.false) :: ((Value.bool Bool.false) :: ((Value.bool Bool.false) :: ((Value.bool Bool.false) :: ((Value.bool Bool.false) :: ((Value.bool Bool.false) :: ((Value.bool Bool.false) :: ((Value.bool Bool.false) :: ((Value.bool Bool.false) :: ((Value.bool Bool.false) :: ((Value.bool Bool.false) :: ((Value.bool Bool.false) :: ((Value.bool Bool.false) :: ((Value.bool Bool.false) :: ((Value.bool Bool.false) :: ((Value.bool Bool.false) :: ((Value.bool Bool.false) :: ((Value.bool Bool.false) :: ((Value.bool Bool.false) :: ((Value.bool Bool.false) :: ((Value.bool Bool.false) :: ((Value.bool Bool.false) :: ((Value.bool Bool.false) :: ((Value.bool Bool.false) :: ((Value.bool Bool.false) :: ((Value.bool Bool.false) :: ((Value.bool Bool.false) :: ((Value.bool Bool.false) :: ((Value.bool Bool.false) :: ((Value.bool Bool.false) :: ((Value.bool Bool.false) :: ((Value.bool Bool.false) :: ((Value.bool Bool.false) :: ((Value.bool Bool.false) :: ((Value.bool Bool.false) :: ((Value.bool Bool.false) :: ((Value.bool Bool.false) :: ((Value.bool Bool.false) :: ((Value.bool Bool.false) :: ((Value.bool Bool.false) :: ((Value.bool Bool.false) :: ((Value.bool Bool.false) :: ((Value.bool Bool.false) :: ((Value.bool Bool.false) :: ((Value.bool Bool.false) :: ((Value.bool Bool.false) :: ((Value.bool Bool.false) :: ((Value.bool Bool.false) :: ((Value.bool Bool.false) :: ((Value.bool Bool.false) :: ((Value.bool Bool.false) :: ((Value.bool Bool.false) :: ((Value.bool Bool.false) :: ((Value.bool Bool.false) :: ((Value.bool Bool.false) :: ((Value.bool Bool.false) :: ((Value.bool Bool.false) :: ((Value.bool Bool.false) :: ((Value.bool Bool.false) :: ((Value.bool Bool.false) :: ((Value.bool Bool.false) :: ((Value.bool Bool.false) :: ((Value.bool Bool.false) :: ((Value.bool Bool.false) :: ((Value.bool Bool.false) :: ((Value.bool Bool.false) :: ((Value.bool Bool.false) :: ((Value.bool Bool.false) :: ((Value.bool Bool.false) :: ((Value.bool Bool.false) :: ((Value.bool Bool.false) :: ((Value.bool Bool.false) :: ((Value.bool Bool.false) :: ((Value.bool Bool.false) :: ((Value.bool Bool.false) :: ((Value.bool Bool.false) :: ((Value.bool Bool.false) :: ((Value.bool Bool.false) :: ((Value.bool Bool.false) :: ((Value.bool Bool.false) :: ((Value.bool Bool.false) :: ((Value.bool Bool.false) :: ((Value.bool Bool.false) :: ((Value.bool Bool.false) :: ((Value.bool Bool.false) :: ((Value.bool Bool.false) :: ((Value.bool Bool.false) :: ((Value.bool Bool.false) :: ((Value.bool Bool.false) :: ((Value.bool Bool.false) :: ((Value.bool Bool.false) :: ((Value.bool Bool.false) :: ((Value.bool Bool.false) :: ((Value.bool Bool.false) :: ((Value.bool Bool.false) :: ((Value.bool Bool.false) :: ((Value.bool Bool.false) :: ((Value.bool Bool.false) :: ((Value.bool Bool.false) :: ((Value.bool Bool.false) :: ((Value.bool Bool.false) :: ((Value.bool Bool.false) :: ((Value.bool Bool.false) :: ((Value.bool Bool.false) :: ((Value.bool Bool.false) :: ((Value.bool Bool.false) :: ((Value.bool Bool.false) :: ((Value.bool Bool.false) :: ((Value.bool Bool.false) :: ((Value.bool Bool.false) :: ((Value.bool Bool.false) :: ((Value.bool Bool.false) :: ((Value.bool Bool.false) :: ((Value.bool Bool.false) :: ((Value.bool Bool.false) :: ((Value.bool Bool.false) :: ((Value.bool Bool.false) :: ((Value.bool Bool.false) :: ((Value.bool Bool.false) :: ((Value.bool Bool.false) :: ((Value.bool Bool.false) :: ((Value.bool Bool.false) :: ((Value.bool Bool.false) :: ((Value.bool Bool.false) :: ((Value.bool Bool.false) :: ((Value.bool Bool.false) :: ((Value.bool Bool.false) :: ((Value.bool Bool.false) :: ((Value.bool Bool.false) :: ((Value.bool Bool.false) :: ((Value.bool Bool.false) :: ((Value.bool Bool.false) :: ((Value.bool Bool.false) :: ((Value.bool Bool.false) :: ((Value.bool Bool.false) :: ((Value.bool Bool.false) :: ((Value.bool Bool.false) :: ((Value.bool Bool.false) :: ((Value.bool Bool.false) :: ((Value.bool Bool.false) :: ((Value.bool Bool.false) :: ((Value.bool Bool.false) :: ((Value.bool Bool.false) :: ((Value.bool Bool.false) :: ((Value.bool Bool.false) :: ((Value.bool Bool.false) :: ((Value.bool Bool.false) :: ((Value.bool Bool.false) :: ((Value.bool Bool.false) :: ((Value.bool Bool.false) :: ((Value.bool Bool.false) :: ((Value.bool Bool.false) :: ((Value.bool Bool.false) :: ((Value.bool Bool.false) :: ((Value.bool Bool.false) :: ((Value.bool Bool.false) :: ((Value.bool Bool.false) :: ((Value.bool Bool.false) :: ((Value.bool Bool.false) :: ((Value.bool Bool.false) :: ((Value.bool Bool.false) :: ((Value.bool Bool.false) :: ((Value.bool Bool.false) :: ((Value.bool Bool.false) :: ((Value.bool Bool.false) :: ((Value.bool Bool.false) :: ((Value.bool Bool.false) :: ((Value.bool Bool.false) :: ((Value.bool Bool.false) :: ((Value.bool Bool.false) :: ((Value.bool Bool.false) :: ((Value.bool Bool.false) :: ((Value.bool Bool.false) :: ((Value.bool Bool.false) :: ((Value.bool Bool.false) :: ((Value.bool Bool.false) :: ((Value.bool Bool.false) :: ((Value.bool Bool.false) :: ((Value.bool Bool.false) :: ((Value.bool Bool.false) :: ((Value.bool Bool.false) :: ((Value.bool Bool.false) :: ((Value.bool Bool.false) :: ((Value.bool Bool.false) :: ((Value.bool Bool.false) :: ((Value.bool Bool.false) :: ((Value.bool Bool.false) :: ((Value.bool Bool.false) :: ((Value.bool Bool.false) :: ((Value.bool Bool.false) :: ((Value.bool Bool.false) :: ((Value.bool Bool.false) :: ((Value.bool Bool.false) :: ((Value.bool Bool.false) :: ((Value.bool Bool.false) :: ((Value.bool Bool.false) :: ((Value.bool Bool.false) :: ((Value.bool Bool.false) :: ((Value.bool Bool.false) :: ((Value.bool Bool.false) :: ((Value.bool Bool.false) :: ((Value.bool Bool.false) :: ((Value.bool Bool.false) :: ((Value.bool Bool.false) :: ((Value.bool Bool.false) :: ((Value.bool Bool.false) :: ((Value.bool Bool.false) :: ((Value.bool Bool.false) :: ((Value.bool Bool.false) :: ((Value.bool Bool.false) :: ((Value.bool Bool.false) :: ((Value.bool Bool.false) :: ((Value.bool Bool.false) :: ((Value.bool Bool.false) :: ((Value.bool Bool.false) :: ((Value.bool Bool.false) :: ((Value.bool Bool.false) :: ((Value.bool Bool.false) :: ((Value.bool Bool.false) :: ((Value.bool Bool.false) :: ((Value.bool Bool.false) :: ((Value.bool Bool.false) :: ((Value.bool Bool.false) :: ((Value.bool Bool.false) :: ((Value.bool Bool.false) :: ((Value.bool Bool.false) :: ((Value.bool Bool.false) :: ((Value.bool Bool.false) :: ((Value.bool Bool.false) :: ((Value.bool Bool.false) :: ((Value.bool Bool.false) :: ((Value.bool Bool.false) :: ((Value.bool Bool.false) :: ((Value.bool Bool.false) :: ((Value.bool Bool.false) :: ((Value.bool Bool.false) :: ((Value.bool Bool.false) :: ((Value.bool Bool.false) :: ((Value.bool Bool.false) :: ((Value.bool Bool.false) :: ((Value.bool Bool.false) :: ((Value.bool Bool.false) :: ((Value.bool Bool.false) :: ((Value.bool Bool.false) :: ((Value.bool Bool.false) :: ((Value.bool Bool.false) :: ((Value.bool Bool.false) :: ((Value.bool Bool.false) :: ((Value.bool Bool.false) :: ((Value.bool Bool.false) :: ((Value.bool Bool.false) :: ((Value.bool Bool.false) :: ((Value.bool Bool.false) :: ((Value.bool Bool.false) :: [])))))))))))))))))))))))))))))))))))))))))))))))))))))))))))))))))))))))))))))))))))))))))))))))))))))))))))))))))))))))))))))))))))))))))))))))))))))))))))))))))))))))))))))))))))))))))))))))))))))))))))))))))))))))))))))))))))))))))))))))))))))))))))))))) (fun z26 => (Prog.ret (itP z26)))))
                Prog.fail
                ((isTupV v25) && (okNs (Nm.raw :: ((Nm.one Kd.bool) :: [])) (tupOf v25)))))
            (decide ((Int.ofNat (byteAt x1 0)) < (128 : Int))))
          Prog.fail
          (Nat.ble 1 (List.length (Array.toList (ByteArray.data x1)))))
        (Prog.call (callF En (runP En f) 113 [(Value.string x1)]) fun v33 =>
          (cnd
            (callP (fun v35 =>
              (cnd
                (callP (fun v36 =>
                  (cnd
                    (Prog.call (callF En (runP En f) 114 [(Value.string x0), (Value.pointer (Option.some (Addr.mk (blkOf v35) (offOf v35) Option.none)))]) fun v37 =>
                      (cnd
                        (Prog.call (callF En (runP En f) 176 [(Value.string (strOf v37)), (Value.pointer (Option.some (Addr.mk (blkOf v35) (offOf v35) Option.none)))]) fun v38 =>
                          (cnd
                            (Prog.ret (Value.string (strOf v38)))
                            Prog.fail
                            (okK Kd.str v38)))
                        Prog.fail
                        (okK Kd.str v37)))
                    (Prog.call (callF En (runP En f) 115 [(Value.string x0), (Value.string x1)]) fun v39 =>
                      (cnd
                        (Prog.call (callF En (runP En f) 177 [(Value.string (strOf v39)), (Value.string x1)]) fun v40 =>
                          (cnd
                            (Prog.ret (Value.string (strOf v40)))
                            Prog.fail
                            (okK Kd.str v40)))
                        Prog.fail
                        (okK Kd.str v39)))
                    (boolOf (at_ (tupOf v33) 1))))
                  (storeT En 116 (blkOf v35) (offOf v35) (at_ (tupOf v33) 0)))
                Prog.fail
                (isPt v35)))
              (Prog.newH (Hdr.mk 256 116 Bool.false Bool.true Bool.true 0 Bool.false Bool.false []) ((Value.bool Bool.false) :: ((Value.bool Bool.false) :: ((Value.bool Bool.false) :: ((Value.bool Bool.false) :: ((Value.bool Bool.false) :: ((Value.bool Bool.false) :: ((Value.bool Bool.false) :: ((Value.bool Bool.false) :: ((Value.bool Bool.false) :: ((Value.bool Bool.false) :: ((Value.bool Bool.false) :: ((Value.bool Bool.false) :: ((Value.bool Bool.false) :: ((Value.bool Bool.false) :: ((Value.bool Bool.false) :: ((Value.bool Bool.false) :: ((Value.bool Bool.false) :: ((Value.bool Bool.false) :: ((Value.bool Bool.false) :: ((Value.bool Bool.false) :: ((Value.bool Bool.false) :: ((Value.bool Bool.false) :: ((Value.bool Bool.false) :: ((Value.bool Bool.false) :: ((Value.bool Bool.false) :: ((Value.bool Bool.false) :: ((Value.bool Bool.false) :: ((Value.bool Bool.false) :: ((Value.bool Bool.false) :: ((Value.bool Bool.false) :: ((Value.bool Bool.false) :: ((Value.bool Bool.false) :: ((Value.bool Bool.false) :: ((Value.bool Bool.false) :: ((Value.bool Bool.false) :: ((Value.bool Bool.false) :: ((Value.bool Bool.false) :: ((Value.bool Bool.false) :: ((Value.bool Bool.false) :: ((Value.bool Bool.false) :: ((Value.bool Bool.false) :: ((Value.bool Bool.false) :: ((Value.bool Bool.false) :: ((Value.bool Bool.false) :: ((Value.bool Bool.false) :: ((Value.bool Bool.false) :: ((Value.bool Bool.false) :: ((Value.bool Bool.false) :: ((Value.bool Bool.false) :: ((Value.bool Bool.false) :: ((Value.bool Bool.false) :: ((Value.bool Bool.false) :: ((Value.bool Bool.false) :: ((Value.bool Bool.false) :: ((Value.bool Bool.false) :: ((Value.bool Bool.false) :: ((Value.bool Bool.false) :: ((Value.bool Bool.false) :: ((Value.bool Bool.false) :: ((Value.bool Bool.false) :: ((Value.bool Bool.false) :: ((Value.bool Bool.false) :: ((Value.bool Bool.false) :: ((Value.bool Bool.false) :: ((Value.bool Bool.false) :: ((Value.bool Bool.false) :: ((Value.bool Bool.false) :: ((Value.bool Bool.false) :: ((Value.bool Bool.false) :: ((Value.bool Bool.false) :: ((Value.bool Bool.false) :: ((Value.bool Bool.false) :: ((Value.bool Bool.false) :: ((Value.bool Bool.false) :: ((Value.bool Bool.false) :: ((Value.bool Bool.false) :: ((Value.bool Bool.false) :: ((Value.bool Bool.false) :: ((Value.bool Bool.false) :: ((Value.bool Bool.false) :: ((Value.bool Bool.false) :: ((Value.bool Bool.false) :: ((Value.bool Bool.false) :: ((Value.bool Bool.false) :: ((Value.bool Bool.false) :: ((Value.bool Bool.false) :: ((Value.bool Bool.false) :: ((Value.bool Bool.false) :: ((Value.bool Bool.false) :: ((Value.bool Bool.false) :: ((Value.bool Bool.false) :: ((Value.bool Bool.false) :: ((Value.bool Bool.false) :: ((Value.bool Bool.false) :: ((Value.bool Bool.false) :: ((Value.bool Bool.false) :: ((Value.bool Bool.false) :: ((Value.bool Bool.false) :: ((Value.bool Bool.false) :: ((Value.bool Bool.false) :: ((Value.bool Bool.false) :: ((Value.bool Bool.false) :: ((Value.bool Bool.false) :: ((Value.bool Bool.false) :: ((Value.bool Bool.false) :: ((Value.bool Bool.false) :: ((Value.bool Bool.false) :: ((Value.bool Bool.false) :: ((Value.bool Bool.false) :: ((Value.bool Bool.false) :: ((Value.bool Bool.false) :: ((Value.bool Bool.false) :: ((Value.bool Bool.false) :: ((Value.bool Bool.false) :: ((Value.bool Bool.false) :: ((Value.bool Bool.false) :: ((Value.bool Bool.false) :: ((Value.bool Bool.false) :: ((Value.bool Bool.false) :: ((Value.bool Bool.false) :: ((Value.bool Bool.false) :: ((Value.bool Bool.false) :: ((Value.bool Bool.false) :: ((Value.bool Bool.false) :: ((Value.bool Bool.false) :: ((Value.bool Bool.false) :: ((Value.bool Bool.false) :: ((Value.bool Bool.false) :: ((Value.bool Bool.false) :: ((Value.bool Bool.false) :: ((Value.bool Bool.false) :: ((Value.bool Bool.false) :: ((Value.bool Bool.false) :: ((Value.bool Bool.false) :: ((Value.bool Bool.false) :: ((Value.bool Bool.false) :: ((Value.bool Bool.false) :: ((Value.bool Bool.false) :: ((Value.bool Bool.false) :: ((Value.bool Bool.false) :: ((Value.bool Bool.false) :: ((Value.bool Bool.false) :: ((Value.bool Bool.false) :: ((Value.bool Bool.false) :: ((Value.bool Bool.false) :: ((Value.bool Bool.false) :: ((Value.bool Bool.false) :: ((Value.bool Bool.false) :: ((Value.bool Bool.false) :: ((Value.bool Bool.false) :: ((Value.bool Bool.false) :: ((Value.bool Bool.false) :: ((Value.bool Bool.false) :: ((Value.bool Bool.false) :: ((Value.bool Bool.false) :: ((Value.bool Bool.false) :: ((Value.bool Bool.false) :: ((Value.bool Bool.false) :: ((Value.bool Bool.false) :: ((Value.bool Bool.false) :: ((Value.bool Bool.false) :: ((Value.bool Bool.false) :: ((Value.bool Bool.false) :: ((Value.bool Bool.false) :: ((Value.bool Bool.false) :: ((Value.bool Bool.false) :: ((Value.bool Bool.false) :: ((Value.bool Bool.false) :: ((Value.bool Bool.false) :: ((Value.bool Bool.false) :: ((Value.bool Bool.false) :: ((Value.bool Bool.false) :: ((Value.bool Bool.false) :: ((Value.bool Bool.false) :: ((Value.bool Bool.false) :: ((Value.bool Bool.false) :: ((Value.bool Bool.false) :: ((Value.bool Bool.false) :: ((Value.bool Bool.false) :: ((Value.bool Bool.false) :: ((Value.bool Bool.false) :: ((Value.bool Bool.false) :: ((Value.bool Bool.false) :: ((Value.bool Bool.false) :: ((Value.bool Bool.false) :: ((Value.bool Bool.false) :: ((Value.bool Bool.false) :: ((Value.bool Bool.false) :: ((Value.bool Bool.false) :: ((Value.bool Bool.false) :: ((Value.bool Bool.false) :: ((Value.bool Bool.false) :: ((Value.bool Bool.false) :: ((Value.bool Bool.false) :: ((Value.bool Bool.false) :: ((Value.bool Bool.false) :: ((Value.bool Bool.false) :: ((Value.bool Bool.false) :: ((Value.bool Bool.false) :: ((Value.bool Bool.false) :: ((Value.bool Bool.false) :: ((Value.bool Bool.false) :: ((Value.bool Bool.false) :: ((Value.bool Bool.false) :: ((Value.bool Bool.false) :: ((Value.bool Bool.false) :: ((Value.bool Bool.false) :: ((Value.bool Bool.false) :: ((Value.bool Bool.false) :: ((Value.bool Bool.false) :: ((Value.bool Bool.false) :: ((Value.bool Bool.false) :: ((Value.bool Bool.false) :: ((Value.bool Bool.false) :: ((Value.bool Bool.false) :: ((Value.bool Bool.false) :: ((Value.bool Bool.false) :: ((Value.bool Bool.false) :: ((Value.bool Bool.false) :: ((Value.bool Bool.false) :: ((Value.bool Bool.false) :: ((Value.bool Bool.false) :: ((Value.bool Bool.false) :: ((Value.bool Bool.false) :: ((Value.bool Bool.false) :: ((Value.bool Bool.false) :: ((Value.bool Bool.false) :: ((Value.bool Bool.false) :: ((Value.bool Bool.false) :: ((Value.bool Bool.false) :: ((Value.bool Bool.false) :: ((Value.bool Bool.false) :: ((Value.bool Bool.false) :: ((Value.bool Bool.false) :: ((Value.bool Bool.false) :: ((Value.bool Bool.false) :: ((Value.bool Bool.false) :: ((Value.bool Bool.false) :: ((Value.bool Bool.false) :: ((Value.bool Bool.false) :: ((Value.bool Bool.false) :: ((Value.bool Bool.false) :: ((Value.bool Bool.false) :: ((Value.bool Bool.false) :: ((Value.bool Bool.false) :: ((Value.bool Bool.false) :: ((Value.bool Bool.false) :: ((Value.bool Bool.false) :: ((Value.bool Bool.false) :: ((Value.bool Bool.false) :: ((Value.bool Bool.false) :: ((Value.bool Bool.false) :: ((Value.bool Bool.false) :: ((Value.bool Bool.false) :: ((Value.bool Bool.false) :: ((Value.bool Bool.false) :: [])))))))))))))))))))))))))))))))))))))))))))))))))))))))))))))))))))))))))))))))))))))))))))))))))))))))))))))))))))))))))))))))))))))))))))))))))))))))))))))))))))))))))))))))))))))))))))))))))))))))))))))))))))))))))))))))))))))))))))))))))))))))))))))))) (fun z34 => (Prog.ret (itP z34)))))
            Prog.fail
            ((isTupV v33) && (okNs (Nm.raw :: ((Nm.one Kd.bool) :: [])) (tupOf v33)))))
        (decide ((Int.ofNat (List.length (Array.toList (ByteArray.data x1)))) = (1 : Int))))
      (beqB (Array.toList (ByteArray.data x1)) []))
    (beqB (Array.toList (ByteArray.data x0)) [])) := by kernel_rfl
end Go.Proofs.YtmjbmbmnnephjaaGreatDoor
/- What comes of the points of a function: printed by the tool. -/
namespace Go.Proofs.YtmjbmbmnnephjaaGreatDoor
open Go Go.Ev Go.Proofs
set_option maxRecDepth 8000
set_option linter.unusedVariables false
noncomputable def p121_12 (f : Nat) (x0 : ByteArray) (x5 : Int) : Prog := runP En f 121 (tmL 97 [(0, (Value.string x0)), (5, (Value.int IntKind.i64 x5))]) [.code (cL (cR (cR (cR (cR (cB 121)))))), .code (cR (cR (cR (cR (cR (cB 121))))))] [] none
noncomputable def p121_19 (f : Nat) (x5 : Int) (x8 : Bool) (x9 : ByteArray) (x10 : ByteArray) (x11 : Bool) : Prog := runP En f 121 (tmL 97 [(5, (Value.int IntKind.i64 x5)), (8, (Value.bool x8)), (9, (Value.string x9)), (10, (Value.string x10)), (11, (Value.bool x11))]) [.code (cL (cL (cR (cR (cR (cR (cR (cR (cR (cB 121)))))))))), .code (cR (cL (cR (cR (cR (cR (cR (cR (cR (cB 121)))))))))), .code (cR (cR (cR (cR (cR (cR (cR (cR (cB 121)))))))))] [] none
theorem p121_12_eq (f : Nat) (x0 : ByteArray) (x5 : Int) : p121_12 (f + 1) x0 x5 =
  (Prog.call (callF En (runP En f) 136 [(Value.string x0), (Value.string (mkStr [45]))]) fun v10 =>
    (cnd
      (Prog.call (callF En (runP En f) 178 [(Value.string (strOf (at_ (tupOf v10) 0))), (Value.string (mkStr [46]))]) fun v11 =>
        (cnd
          (cnd
            (cnd
              (Prog.ret (Value.tuple ⟨((Value.int IntKind.i64 (0 : Int)) :: ((Value.int IntKind.i64 (0 : Int)) :: ((Value.bool Bool.false) :: [])))⟩))
              (cnd
                (Prog.ret (Value.tuple ⟨((Value.int IntKind.i64 (0 : Int)) :: ((Value.int IntKind.i64 (0 : Int)) :: ((Value.bool Bool.false) :: [])))⟩))
                (cnd
                  (Prog.ret (Value.tuple ⟨((Value.int IntKind.i64 (0 : Int)) :: ((Value.int IntKind.i64 (0 : Int)) :: ((Value.bool Bool.false) :: [])))⟩))
                  (cnd
                    (cnd
                      (cnd
                        (p121_19 f (5 : Int) (boolOf (at_ (tupOf v10) 1)) (mkStr ((Array.toList (ByteArray.data (strOf (at_ (tupOf v11) 0)))) ++ ((Array.toList (ByteArray.data (strOf (at_ (tupOf v11) 1)))) ++ (List.take (4 - (List.length (Array.toList (ByteArray.data (strOf (at_ (tupOf v11) 1)))))) (List.drop (List.length (Array.toList (ByteArray.data (strOf (at_ (tupOf v11) 1))))) ((48 : UInt8) :: ((48 : UInt8) :: ((48 : UInt8) :: ((48 : UInt8) :: []))))))))) (strOf (at_ (tupOf v11) 1)) (boolOf (at_ (tupOf v11) 2)))
                        Prog.fail
                        (Nat.ble ((List.length (Array.toList (ByteArray.data (strOf (at_ (tupOf v11) 0))))) + (List.length ((Array.toList (ByteArray.data (strOf (at_ (tupOf v11) 1)))) ++ (List.take (4 - (List.length (Array.toList (ByteArray.data (strOf (at_ (tupOf v11) 1)))))) (List.drop (List.length (Array.toList (ByteArray.data (strOf (at_ (tupOf v11) 1))))) ((48 : UInt8) :: ((48 : UInt8) :: ((48 : UInt8) :: ((48 : UInt8) :: []))))))))) 9223372036854775807))
                      Prog.fail
                      (Nat.ble ((List.length (Array.toList (ByteArray.data (strOf (at_ (tupOf v11) 1))))) + (List.length (List.take (4 - (List.length (Array.toList (ByteArray.data (strOf (at_ (tupOf v11) 1)))))) (List.drop (List.length (Array.toList (ByteArray.data (strOf (at_ (tupOf v11) 1))))) ((48 : UInt8) :: ((48 : UInt8) :: ((48 : UInt8) :: ((48 : UInt8) :: [])))))))) 9223372036854775807))
                    Prog.fail
                    ((Nat.ble (List.length (Array.toList (ByteArray.data (strOf (at_ (tupOf v11) 1))))) 4) && Bool.true))
                  (decide ((Int.ofNat (List.length (Array.toList (ByteArray.data (strOf (at_ (tupOf v11) 1)))))) > (4 : Int))))
                (beqB (Array.toList (ByteArray.data (strOf (at_ (tupOf v11) 1)))) []))
              (decide (x5 = (4 : Int))))
            (p121_19 f x5 (boolOf (at_ (tupOf v10) 1)) (strOf (at_ (tupOf v11) 0)) (strOf (at_ (tupOf v11) 1)) (boolOf (at_ (tupOf v11) 2)))
            (boolOf (at_ (tupOf v11) 2)))
          Prog.fail
          ((isTupV v11) && (okNs ((Nm.one Kd.str) :: ((Nm.one Kd.str) :: ((Nm.one Kd.bool) :: []))) (tupOf v11)))))
      Prog.fail
      ((isTupV v10) && (okNs ((Nm.one Kd.str) :: ((Nm.one Kd.bool) :: [])) (tupOf v10))))) := by kernel_rfl
theorem p121_19_eq (f : Nat) (x5 : Int) (x8 : Bool) (x9 : ByteArray) (x10 : ByteArray) (x11 : Bool) : p121_19 (f + 1) x5 x8 x9 x10 x11 =
  (cnd
    (Prog.ret (Value.tuple ⟨((Value.int IntKind.i64 (0 : Int)) :: ((Value.int IntKind.i64 (0 : Int)) :: ((Value.bool Bool.false) :: [])))⟩))
    (Prog.call (callF En (runP En f) 118 [(Value.string x9), (Value.string (mkStr [48, 49, 50, 51, 52, 53, 54, 55, 56, 57]))]) fun v12 =>
      (cnd
        (cnd
          (Prog.ret (Value.tuple ⟨((Value.int IntKind.i64 (0 : Int)) :: ((Value.int IntKind.i64 (0 : Int)) :: ((Value.bool Bool.false) :: [])))⟩))
          (Prog.call (callF En (runP En f) 118 [(Value.string x10), (Value.string (mkStr [48, 49, 50, 51, 52, 53, 54, 55, 56, 57]))]) fun v13 =>
            (cnd
              (cnd
                (Prog.ret (Value.tuple ⟨((Value.int IntKind.i64 (0 : Int)) :: ((Value.int IntKind.i64 (0 : Int)) :: ((Value.bool Bool.false) :: [])))⟩))
                (cnd
                  (cnd
                    (Prog.ret (Value.tuple ⟨((Value.int IntKind.i64 (0 : Int)) :: ((Value.int IntKind.i64 (0 : Int)) :: ((Value.bool Bool.false) :: [])))⟩))
                    (Prog.call (callF En (runP En f) 179 [(Value.string x9), (Value.int IntKind.i64 (10 : Int)), (Value.int IntKind.i64 (64 : Int))]) fun v14 =>
                      (cnd
                        (binK En BinOp.neq 103 (Operand.tmp 83) (Operand.const Value.nilIface) (at_ (tupOf v14) 1) Value.nilIface fun v15 =>
                          (cnd
                            (cnd
                              (Prog.ret (Value.tuple ⟨((Value.int IntKind.i64 (0 : Int)) :: ((Value.int IntKind.i64 (0 : Int)) :: ((Value.bool Bool.false) :: [])))⟩))
                              (cnd
                                (Prog.ret (Value.tuple ⟨((Value.int IntKind.i64 (0 : Int)) :: ((Value.int IntKind.i64 (0 : Int)) :: ((Value.bool Bool.false) :: [])))⟩))
                                (cnd
                                  (Prog.ret (Value.tuple ⟨((Value.int IntKind.i64 x5) :: ((Value.int IntKind.i64 (IntKind.wrap IntKind.i64 ((0 : Int) + (Int.neg (IntKind.wrap IntKind.i64 (intOf (at_ (tupOf v14) 0))))))) :: ((Value.bool Bool.true) :: [])))⟩))
                                  (Prog.ret (Value.tuple ⟨((Value.int IntKind.i64 x5) :: ((Value.int IntKind.i64 (IntKind.wrap IntKind.i64 (intOf (at_ (tupOf v14) 0)))) :: ((Value.bool Bool.true) :: [])))⟩))
                                  x8)
                                (decide ((intOf (at_ (tupOf v14) 0)) > (9223372036854775807 : Int))))
                              (boolOf v15))
                            Prog.fail
                            (okK Kd.bool v15)))
                        Prog.fail
                        ((isTupV v14) && (okNs ((Nm.one (Kd.int IntKind.u64)) :: ((Nm.one Kd.raw) :: [])) (tupOf v14)))))
                    (decide ((Int.ofNat (List.length (Array.toList (ByteArray.data x9)))) = (4 : Int))))
                  (Prog.call (callF En (runP En f) 179 [(Value.string x9), (Value.int IntKind.i64 (10 : Int)), (Value.int IntKind.i64 (64 : Int))]) fun v16 =>
                    (cnd
                      (binK En BinOp.neq 103 (Operand.tmp 83) (Operand.const Value.nilIface) (at_ (tupOf v16) 1) Value.nilIface fun v17 =>
                        (cnd
                          (cnd
                            (Prog.ret (Value.tuple ⟨((Value.int IntKind.i64 (0 : Int)) :: ((Value.int IntKind.i64 (0 : Int)) :: ((Value.bool Bool.false) :: [])))⟩))
                            (cnd
                              (Prog.ret (Value.tuple ⟨((Value.int IntKind.i64 (0 : Int)) :: ((Value.int IntKind.i64 (0 : Int)) :: ((Value.bool Bool.false) :: [])))⟩))
                              (cnd
                                (Prog.ret (Value.tuple ⟨((Value.int IntKind.i64 x5) :: ((Value.int IntKind.i64 (IntKind.wrap IntKind.i64 ((0 : Int) + (Int.neg (IntKind.wrap IntKind.i64 (intOf (at_ (tupOf v16) 0))))))) :: ((Value.bool Bool.true) :: [])))⟩))
                                (Prog.ret (Value.tuple ⟨((Value.int IntKind.i64 x5) :: ((Value.int IntKind.i64 (IntKind.wrap IntKind.i64 (intOf (at_ (tupOf v16) 0)))) :: ((Value.bool Bool.true) :: [])))⟩))
                                x8)
                              (decide ((intOf (at_ (tupOf v16) 0)) > (9223372036854775807 : Int))))
                            (boolOf v17))
                          Prog.fail
                          (okK Kd.bool v17)))
                      Prog.fail
                      ((isTupV v16) && (okNs ((Nm.one (Kd.int IntKind.u64)) :: ((Nm.one Kd.raw) :: [])) (tupOf v16)))))
                  x11)
                (Bool.not (beqB (Array.toList (ByteArray.data (strOf v13))) [])))
              Prog.fail
              (okK Kd.str v13)))
          (Bool.not (beqB (Array.toList (ByteArray.data (strOf v12))) [])))
        Prog.fail
        (okK Kd.str v12)))
    (beqB (Array.toList (ByteArray.data x9)) [])) := by kernel_rfl
theorem f121_eq (f : Nat) (x0 : ByteArray) : callF En (runP En (f + 1)) 121 [(Value.string x0)] =
  (cnd
    (Prog.ret (Value.tuple ⟨((Value.int IntKind.i64 (2 : Int)) :: ((Value.int IntKind.i64 (-9223372036854775808 : Int)) :: ((Value.bool Bool.true) :: [])))⟩))
    (cnd
      (Prog.ret (Value.tuple ⟨((Value.int IntKind.i64 (4 : Int)) :: ((Value.int IntKind.i64 (-9223372036854775808 : Int)) :: ((Value.bool Bool.true) :: [])))⟩))
      (cnd
        (Prog.ret (Value.tuple ⟨((Value.int IntKind.i64 (5 : Int)) :: ((Value.int IntKind.i64 (-9223372036854775808 : Int)) :: ((Value.bool Bool.true) :: [])))⟩))
        (Prog.call (callF En (runP En f) 117 [(Value.string x0), (Value.string (mkStr [116]))]) fun v18 =>
          (cnd
            (cnd
              (p121_12 f (strOf (at_ (tupOf v18) 0)) (4 : Int))
              (p121_12 f x0 (2 : Int))
              (boolOf (at_ (tupOf v18) 1)))
            Prog.fail
            ((isTupV v18) && (okNs ((Nm.one Kd.str) :: ((Nm.one Kd.bool) :: [])) (tupOf v18)))))
        (beqB (Array.toList (ByteArray.data x0)) ((48 : UInt8) :: ((78 : UInt8) :: ((100 : UInt8) :: [])))))
      (beqB (Array.toList (ByteArray.data x0)) ((48 : UInt8) :: ((78 : UInt8) :: ((116 : UInt8) :: [])))))
    (beqB (Array.toList (ByteArray.data x0)) ((48 : UInt8) :: ((78 : UInt8) :: [])))) := by kernel_rfl
end Go.Proofs.YtmjbmbmnnephjaaGreatDoor
/- What comes of the points of a function: printed by the tool. -/
namespace Go.Proofs.YtmjbmbmnnephjaaGreatDoor
open Go Go.Ev Go.Proofs
set_option maxRecDepth 8000
set_option linter.unusedVariables false
theorem f124_eq (f : Nat) (x0 : ByteArray) (x1 : Int) : callF En (runP En (f + 1)) 124 [(Value.string x0), (Value.int IntKind.u8 x1)] =
  (Prog.call (callF En (runP En f) 180 [(Value.string x0), (Value.int IntKind.u8 x1)]) fun v2 =>
    (cnd
      (Prog.ret (Value.int IntKind.i64 (intOf v2)))
      Prog.fail
      (okK (Kd.int IntKind.i64) v2))) := by kernel_rfl
end Go.Proofs.YtmjbmbmnnephjaaGreatDoor
/- What comes of the points of a function: printed by the tool. -/
namespace Go.Proofs.YtmjbmbmnnephjaaGreatDoor
open Go Go.Ev Go.Proofs
set_option maxRecDepth 8000
set_option linter.unusedVariables false
theorem f134_eq (f : Nat) (x0 : Nat) : callF En (runP En (f + 1)) 134 [(Value.pointer (Option.some (Addr.mk x0 0 Option.none)))] =
  (callP (fun v12 =>
    (binK En BinOp.eql 82 (Operand.tmp 5) (Operand.const (Value.pointer Option.none)) v12 (Value.pointer Option.none) fun v13 =>
      (cnd
        (cnd
          (callP (fun v15 =>
            (Prog.call (callF En (runP En f) 182 [v15]) fun v16 =>
              (cnd
                (callP (fun v19 =>
                  (callP (fun v20 =>
                    (Prog.ret (Value.tuple ⟨[]⟩)))
                    (storeT En 82 x0 0 v19)))
                  (Prog.hd (blkOf v16) (fun z17 => (opt (Env.size En (Hdr.el z17)) (fun z18 => (gd (((Hdr.ex z17) && (Hdr.z z17)) && (liesAt (Env.P En) (Program.depth (Env.P En)) (Hdr.el z17) (Nat.div (Hdr.n z17) z18) (Addr.off (Addr.mk (blkOf v16) (offOf v16) Option.none)) (OfNat.ofNat 84) (OfNat.ofNat 1))) (Prog.ret (Value.pointer (Option.some (Addr.mk (blkOf v16) (offOf v16) Option.none))))))))))
                Prog.fail
                (isPt v16))))
            (Prog.hd x0 (fun z14 => (gd (Nat.blt (Addr.off (Addr.mk x0 0 Option.none)) (Hdr.n z14)) (Prog.ret (Value.pointer (Option.some (Addr.mk x0 0 Option.none))))))))
          (callP (fun v21 =>
            (binK En BinOp.neq 82 (Operand.tmp 17) (Operand.tmp 18) v21 (Value.pointer (Option.some (Addr.mk x0 0 Option.none))) fun v22 =>
              (cnd
                (cnd
                  Prog.fail
                  (Prog.ret (Value.tuple ⟨[]⟩))
                  (boolOf v22))
                Prog.fail
                (okK Kd.bool v22))))
            (loadT En 82 x0 0))
          (boolOf v13))
        Prog.fail
        (okK Kd.bool v13))))
    (loadT En 82 x0 0)) := by kernel_rfl
end Go.Proofs.YtmjbmbmnnephjaaGreatDoor
/- What comes of the points of a function: printed by the tool. -/
namespace Go.Proofs.YtmjbmbmnnephjaaGreatDoor
open Go Go.Ev Go.Proofs
set_option maxRecDepth 8000
set_option linter.unusedVariables false
theorem f135_eq (f : Nat) (x0 : Nat) (x1 : Int) : callF En (runP En (f + 1)) 135 [(Value.pointer (Option.some (Addr.mk x0 0 Option.none))), (Value.int IntKind.i64 x1)] =
  (Prog.seg (loadT En 65 x0 1) fun v16 s17 _ =>
    (Prog.seg (builtinA En Builtin.cap (65 :: []) (v16 :: [])) fun v18 s19 _ =>
      (gdL 15 (writesOf s19) s19 [⟨3, writesOf s17, s17⟩]
        (cnd
          (Prog.seg (callF En (runP En f) 183 [(Value.int IntKind.i64 (IntKind.wrap IntKind.i64 ((IntKind.wrap IntKind.i64 ((2 : Int) * (intOf v18))) + x1)))]) fun v20 s21 _ =>
            (gdL 255 (writesOf s21) s21 [⟨4, writesOf s19, s19⟩, ⟨3, writesOf s17, s17⟩]
              (cnd
                (Prog.seg (loadT En 65 x0 1) fun v22 s23 _ =>
                  (gdL 3584 (writesOf s23) s23 [⟨8, writesOf s21, s21⟩, ⟨4, writesOf s19, s19⟩, ⟨3, writesOf s17, s17⟩]
                    (Prog.seg (builtinA En Builtin.len (65 :: []) (v22 :: [])) fun v24 s25 _ =>
                      (gdL 7680 (writesOf s25) s25 [⟨12, writesOf s23, s23⟩, ⟨8, writesOf s21, s21⟩, ⟨4, writesOf s19, s19⟩, ⟨3, writesOf s17, s17⟩]
                        (cnd
                          (Prog.seg (sliceA En 65 (Value.slice (Option.some (Addr.mk (sBlk v20) (sOff v20) Option.none)) (sLen v20) (sCap v20)) Option.none (Option.some (Value.int IntKind.i64 (intOf v24))) Option.none) fun v26 s27 _ =>
                            (gdL 16383 (writesOf s27) s27 [⟨13, writesOf s25, s25⟩, ⟨12, writesOf s23, s23⟩, ⟨8, writesOf s21, s21⟩, ⟨4, writesOf s19, s19⟩, ⟨3, writesOf s17, s17⟩]
                              (cnd
                                (callP (fun v28 =>
                                  (callP (fun v29 =>
                                    (cnd
                                      (callP (fun v30 =>
                                        (Prog.ret (Value.tuple ⟨[]⟩)))
                                        (storeT En 65 x0 1 (Value.slice (Option.some (Addr.mk (sBlk v26) (sOff v26) Option.none)) (sLen v26) (sCap v26))))
                                      Prog.fail
                                      (okK (Kd.int IntKind.i64) v29)))
                                    (builtinA En Builtin.copy (65 :: (65 :: [])) ((Value.slice (Option.some (Addr.mk (sBlk v26) (sOff v26) Option.none)) (sLen v26) (sCap v26)) :: (v28 :: [])))))
                                  (loadT En 65 x0 1))
                                Prog.fail
                                (isSl v26))))
                          Prog.fail
                          (okK (Kd.int IntKind.i64) v24))))))
                Prog.fail
                (isSl v20))))
          Prog.fail
          (okK (Kd.int IntKind.i64) v18))))) := by kernel_rfl
end Go.Proofs.YtmjbmbmnnephjaaGreatDoor
/- What comes of the points of a function: printed by the tool. -/
namespace Go.Proofs.YtmjbmbmnnephjaaGreatDoor
open Go Go.Ev Go.Proofs
set_option maxRecDepth 8000
set_option linter.unusedVariables false
theorem f136_eq (f : Nat) (x0 : ByteArray) (x1 : ByteArray) : callF En (runP En (f + 1)) 136 [(Value.string x0), (Value.string x1)] =
  (Prog.call (callF En (runP En f) 184 [(Value.string x0), (Value.string x1)]) fun v2 =>
    (cnd
      (Prog.ret (Value.tuple ⟨((Value.string (strOf (at_ (tupOf v2) 0))) :: ((Value.bool (boolOf (at_ (tupOf v2) 1))) :: []))⟩))
      Prog.fail
      ((isTupV v2) && (okNs ((Nm.one Kd.str) :: ((Nm.one Kd.bool) :: [])) (tupOf v2))))) := by kernel_rfl
end Go.Proofs.YtmjbmbmnnephjaaGreatDoor
/- What comes of the points of a function: printed by the tool. -/
namespace Go.Proofs.YtmjbmbmnnephjaaGreatDoor
open Go Go.Ev Go.Proofs
set_option maxRecDepth 8000
set_option linter.unusedVariables false
theorem f141_eq (f : Nat) (x0 : ByteArray) (x1 : ByteArray) : callF En (runP En (f + 1)) 141 [(Value.string x0), (Value.string x1)] =
  (cnd
    (cnd
      (Prog.ret (Value.bool (beqB (List.take ((List.length (Array.toList (ByteArray.data x1))) - 0) (Array.toList (ByteArray.data x0))) (Array.toList (ByteArray.data x1)))))
      Prog.fail
      ((Nat.ble 0 (List.length (Array.toList (ByteArray.data x1)))) && (Nat.ble (List.length (Array.toList (ByteArray.data x1))) (List.length (Array.toList (ByteArray.data x0))))))
    (Prog.ret (Value.bool Bool.false))
    (decide ((Int.ofNat (List.length (Array.toList (ByteArray.data x0)))) ≥ (Int.ofNat (List.length (Array.toList (ByteArray.data x1))))))) := by kernel_rfl
end Go.Proofs.YtmjbmbmnnephjaaGreatDoor
/- What comes of the points of a function: printed by the tool. -/
namespace Go.Proofs.YtmjbmbmnnephjaaGreatDoor
open Go Go.Ev Go.Proofs
set_option maxRecDepth 8000
set_option linter.unusedVariables false
noncomputable def p145_3 (f : Nat) (x1 : Nat) (x1o : Nat) (x2 : Nat) (x2o : Nat) : Prog := runP En f 145 (tmL 11 [(1, (Value.pointer (Option.some (Addr.mk x1 x1o Option.none)))), (2, (Value.pointer (Option.some (Addr.mk x2 x2o Option.none))))]) [.code (cL (cR (cR (cB 145)))), .code (cR (cR (cR (cB 145))))] [] none
theorem p145_3_eq (f : Nat) (x1 : Nat) (x1o : Nat) (x2 : Nat) (x2o : Nat) : p145_3 (f + 1) x1 x1o x2 x2o =
  (callP (fun v9 =>
    (cnd
      (callP (fun v10 =>
        (Prog.call (loadT En 32 x2 x2o) fun v11 =>
          (frzT En 32 v11 fun v12 =>
            (Prog.ret v12))))
        (storeT En 32 x2 x2o (Value.agg ⟨((Value.int IntKind.i64 (intOf (at_ (aggOf v9) 0))) :: ((lstV (elems (at_ (aggOf v9) 1))) :: ((lstV (elems (at_ (aggOf v9) 2))) :: ((lstV (elems (at_ (aggOf v9) 3))) :: []))))⟩)))
      Prog.fail
      ((isAggV v9) && (okKs ((Kd.int IntKind.i64) :: (Kd.lst :: (Kd.lst :: (Kd.lst :: [])))) (aggOf v9)))))
    (loadT En 32 x1 x1o)) := by kernel_rfl
theorem f145_eq (f : Nat) (x0_0 : Int) (x0_1 : List Value) (x0_2 : List Value) (x0_3 : List Value) : callF En (runP En (f + 1)) 145 [(Value.agg ⟨((Value.int IntKind.i64 x0_0) :: ((lstV x0_1) :: ((lstV x0_2) :: ((lstV x0_3) :: []))))⟩)] =
  (gd Bool.true
    (callP (fun v14 =>
      (cnd
        (callP (fun v16 =>
          (cnd
            (callP (fun v17 =>
              (cnd
                (Prog.call (callF En (runP En f) 103 [(Value.agg ⟨((Value.int IntKind.i64 (intOf (at_ (aggOf v17) 0))) :: ((lstV (elems (at_ (aggOf v17) 1))) :: ((lstV (elems (at_ (aggOf v17) 2))) :: ((lstV (elems (at_ (aggOf v17) 3))) :: []))))⟩)]) fun v18 =>
                  (cnd
                    (cnd
                      (callP (fun v19 =>
                        (cnd
                          (callP (fun v20 =>
                            (p145_3 f (blkOf v14) (offOf v14) (blkOf v16) (offOf v16)))
                            (storeT En 3 (blkOf v14) ((offOf v14) + 0) (Value.int IntKind.i64 (IntKind.wrap IntKind.i64 ((0 : Int) + (Int.neg (intOf v19)))))))
                          Prog.fail
                          (okK (Kd.int IntKind.i64) v19)))
                        (loadT En 3 (blkOf v14) ((offOf v14) + 0)))
                      (p145_3 f (blkOf v14) (offOf v14) (blkOf v16) (offOf v16))
                      (decide ((intOf v18) = (1 : Int))))
                    Prog.fail
                    (okK (Kd.int IntKind.i64) v18)))
                Prog.fail
                ((isAggV v17) && (okKs ((Kd.int IntKind.i64) :: (Kd.lst :: (Kd.lst :: (Kd.lst :: [])))) (aggOf v17)))))
              (loadT En 32 (blkOf v14) (offOf v14)))
            Prog.fail
            (isPt v16)))
          (Prog.newH (Hdr.mk 4 32 Bool.false Bool.true Bool.true 0 Bool.false Bool.false []) ((Value.int IntKind.i64 (0 : Int)) :: ((Value.slice Option.none 0 0) :: ((Value.slice Option.none 0 0) :: ((Value.slice Option.none 0 0) :: [])))) (fun z15 => (Prog.ret (itP z15)))))
        Prog.fail
        (isPt v14)))
      (Prog.newH (Hdr.mk 4 32 Bool.false Bool.true Bool.true 0 Bool.false Bool.false []) ((Value.int IntKind.i64 x0_0) :: ((lstV x0_1) :: ((lstV x0_2) :: ((lstV x0_3) :: [])))) (fun z13 => (Prog.ret (itP z13)))))) := by kernel_rfl
end Go.Proofs.YtmjbmbmnnephjaaGreatDoor
/- What comes of the points of a function: printed by the tool. -/
namespace Go.Proofs.YtmjbmbmnnephjaaGreatDoor
open Go Go.Ev Go.Proofs
set_option maxRecDepth 8000
set_option linter.unusedVariables false
theorem f146_eq (f : Nat) (x0 : Nat) (x0o : Nat) : callF En (runP En (f + 1)) 146 [(Value.pointer (Option.some (Addr.mk x0 x0o Option.none)))] =
  (callP (fun v3 =>
    (cnd
      (Prog.call (callF En (runP En f) 147 [(Value.pointer (Option.some (Addr.mk (blkOf v3) ((offOf v3) + 0) Option.none))), (Value.func (Fn.func 148) ⟨[]⟩ ⟨[]⟩)]) fun v4 =>
        (cnd
          (Prog.ret (Value.string (strOf v4)))
          Prog.fail
          (okK Kd.str v4)))
      Prog.fail
      (isPt v3)))
    (loadT En 70 x0 x0o)) := by kernel_rfl
end Go.Proofs.YtmjbmbmnnephjaaGreatDoor
/- What comes of the points of a function: printed by the tool. -/
namespace Go.Proofs.YtmjbmbmnnephjaaGreatDoor
open Go Go.Ev Go.Proofs
set_option maxRecDepth 8000
set_option linter.unusedVariables false
noncomputable def p147_2 (f : Nat) (x0 : Nat) (x1 : Nat) (x5 : Int) : Prog := runP En f 147 (tmL 42 [(0, (Value.pointer (Option.some (Addr.mk x0 0 Option.none)))), (1, (Value.func (Fn.func x1) ⟨[]⟩ ⟨[]⟩)), (5, (Value.int IntKind.i64 x5))]) [.code (cL (cL (cI (cI (cL (cR (cR (cB 147)))))))), .code (cR (cL (cI (cI (cL (cR (cR (cB 147)))))))), .code (cR (cI (cI (cL (cR (cR (cB 147))))))), .inLoop (cI (cI (cL (cR (cR (cB 147)))))), .inBlock 0, .code (cR (cR (cR (cB 147))))] [] none
theorem p147_2_eq (f : Nat) (x0 : Nat) (x1 : Nat) (x5 : Int) : p147_2 (f + 1) x0 x1 x5 =
  (callP (fun v1 =>
    (cnd
      (cnd
        (callP (fun v2 =>
          (cnd
            (cnd
              (cnd
                (Prog.call (callF En (runP En f) x1 ((Value.int IntKind.u8 (Int.ofNat (byteAt (strOf v2) (Int.toNat x5)))) :: [])) fun v3 =>
                  (cnd
                    (cnd
                      (p147_2 f x0 x1 (IntKind.wrap IntKind.i64 (x5 + (1 : Int))))
                      (callP (fun v4 =>
                        (cnd
                          (cnd
                            (cnd
                              (callP (fun v5 =>
                                (cnd
                                  (cnd
                                    (cnd
                                      (callP (fun v6 =>
                                        (Prog.ret (Value.string (mkStr (List.take ((Int.toNat x5) - 0) (Array.toList (ByteArray.data (strOf v4))))))))
                                        (storeT En 9 x0 0 (Value.string (mkStr (List.take ((List.length (Array.toList (ByteArray.data (strOf v5)))) - (Int.toNat x5)) (List.drop (Int.toNat x5) (Array.toList (ByteArray.data (strOf v5)))))))))
                                      Prog.fail
                                      ((Nat.ble (Int.toNat x5) (List.length (Array.toList (ByteArray.data (strOf v5))))) && (Nat.ble (List.length (Array.toList (ByteArray.data (strOf v5)))) (List.length (Array.toList (ByteArray.data (strOf v5)))))))
                                    Prog.fail
                                    (decide ((0 : Int) ≤ x5)))
                                  Prog.fail
                                  (okK Kd.str v5)))
                                (loadT En 9 x0 0))
                              Prog.fail
                              ((Nat.ble 0 (Int.toNat x5)) && (Nat.ble (Int.toNat x5) (List.length (Array.toList (ByteArray.data (strOf v4)))))))
                            Prog.fail
                            (decide ((0 : Int) ≤ x5)))
                          Prog.fail
                          (okK Kd.str v4)))
                        (loadT En 9 x0 0))
                      (boolOf v3))
                    Prog.fail
                    (okK Kd.bool v3)))
                Prog.fail
                (Nat.ble (Nat.succ (Int.toNat x5)) (List.length (Array.toList (ByteArray.data (strOf v2))))))
              Prog.fail
              (decide ((0 : Int) ≤ x5)))
            Prog.fail
            (okK Kd.str v2)))
          (loadT En 9 x0 0))
        (callP (fun v7 =>
          (cnd
            (cnd
              (cnd
                (callP (fun v8 =>
                  (cnd
                    (cnd
                      (cnd
                        (callP (fun v9 =>
                          (Prog.ret (Value.string (mkStr (List.take ((Int.toNat x5) - 0) (Array.toList (ByteArray.data (strOf v7))))))))
                          (storeT En 9 x0 0 (Value.string (mkStr (List.take ((List.length (Array.toList (ByteArray.data (strOf v8)))) - (Int.toNat x5)) (List.drop (Int.toNat x5) (Array.toList (ByteArray.data (strOf v8)))))))))
                        Prog.fail
                        ((Nat.ble (Int.toNat x5) (List.length (Array.toList (ByteArray.data (strOf v8))))) && (Nat.ble (List.length (Array.toList (ByteArray.data (strOf v8)))) (List.length (Array.toList (ByteArray.data (strOf v8)))))))
                      Prog.fail
                      (decide ((0 : Int) ≤ x5)))
                    Prog.fail
                    (okK Kd.str v8)))
                  (loadT En 9 x0 0))
                Prog.fail
                ((Nat.ble 0 (Int.toNat x5)) && (Nat.ble (Int.toNat x5) (List.length (Array.toList (ByteArray.data (strOf v7)))))))
              Prog.fail
              (decide ((0 : Int) ≤ x5)))
            Prog.fail
            (okK Kd.str v7)))
          (loadT En 9 x0 0))
        (decide (x5 < (Int.ofNat (List.length (Array.toList (ByteArray.data (strOf v1))))))))
      Prog.fail
      (okK Kd.str v1)))
    (loadT En 9 x0 0)) := by kernel_rfl
theorem f147_eq (f : Nat) (x0 : Nat) (x1 : Nat) : callF En (runP En (f + 1)) 147 [(Value.pointer (Option.some (Addr.mk x0 0 Option.none))), (Value.func (Fn.func x1) ⟨[]⟩ ⟨[]⟩)] =
  (p147_2 f x0 x1 (0 : Int)) := by kernel_rfl
end Go.Proofs.YtmjbmbmnnephjaaGreatDoor
/- What comes of the points of a function: printed by the tool. -/
namespace Go.Proofs.YtmjbmbmnnephjaaGreatDoor
open Go Go.Ev Go.Proofs
set_option maxRecDepth 8000
set_option linter.unusedVariables false
theorem f148_eq (f : Nat) (x0 : Int) : callF En (runP En (f + 1)) 148 [(Value.int IntKind.u8 x0)] =
  (Prog.call (callF En (runP En f) 149 [(Value.int IntKind.u8 x0)]) fun v3 =>
    (cnd
      (cnd
        (Prog.ret (Value.bool Bool.true))
        (Prog.call (callF En (runP En f) 150 [(Value.int IntKind.u8 x0)]) fun v4 =>
          (cnd
            (cnd
              (Prog.ret (Value.bool Bool.true))
              (cnd
                (Prog.ret (Value.bool Bool.true))
                (Prog.ret (Value.bool (decide (x0 = (45 : Int)))))
                (decide (x0 = (46 : Int))))
              (boolOf v4))
            Prog.fail
            (okK Kd.bool v4)))
        (boolOf v3))
      Prog.fail
      (okK Kd.bool v3))) := by kernel_rfl
end Go.Proofs.YtmjbmbmnnephjaaGreatDoor
/- What comes of the points of a function: printed by the tool. -/
namespace Go.Proofs.YtmjbmbmnnephjaaGreatDoor
open Go Go.Ev Go.Proofs
set_option maxRecDepth 8000
set_option linter.unusedVariables false
theorem f149_eq (f : Nat) (x0 : Int) : callF En (runP En (f + 1)) 149 [(Value.int IntKind.u8 x0)] =
  (cnd
    (Prog.ret (Value.bool (decide (x0 ≤ (57 : Int)))))
    (Prog.ret (Value.bool Bool.false))
    (decide (x0 ≥ (48 : Int)))) := by kernel_rfl
end Go.Proofs.YtmjbmbmnnephjaaGreatDoor
/- What comes of the points of a function: printed by the tool. -/
namespace Go.Proofs.YtmjbmbmnnephjaaGreatDoor
open Go Go.Ev Go.Proofs
set_option maxRecDepth 8000
set_option linter.unusedVariables false
theorem f150_eq (f : Nat) (x0 : Int) : callF En (runP En (f + 1)) 150 [(Value.int IntKind.u8 x0)] =
  (cnd
    (cnd
      (Prog.ret (Value.bool Bool.true))
      (cnd
        (Prog.ret (Value.bool (decide (x0 ≤ (90 : Int)))))
        (Prog.ret (Value.bool Bool.false))
        (decide (x0 ≥ (65 : Int))))
      (decide (x0 ≤ (122 : Int))))
    (cnd
      (Prog.ret (Value.bool (decide (x0 ≤ (90 : Int)))))
      (Prog.ret (Value.bool Bool.false))
      (decide (x0 ≥ (65 : Int))))
    (decide (x0 ≥ (97 : Int)))) := by kernel_rfl
end Go.Proofs.YtmjbmbmnnephjaaGreatDoor
/- What comes of the points of a function: printed by the tool. -/
namespace Go.Proofs.YtmjbmbmnnephjaaGreatDoor
open Go Go.Ev Go.Proofs
set_option maxRecDepth 8000
set_option linter.unusedVariables false
noncomputable def p151_5 (f : Nat) (x0 : ByteArray) (x5 : Int) : Prog := runP En f 151 (tmL 62 [(0, (Value.string x0)), (5, (Value.int IntKind.i64 x5))]) [.code (cL (cL (cR (cR (cR (cB 151)))))), .code (cR (cL (cR (cR (cR (cB 151)))))), .code (cR (cR (cR (cR (cB 151)))))] [] none
theorem p151_5_eq (f : Nat) (x0 : ByteArray) (x5 : Int) : p151_5 (f + 1) x0 x5 =
  (cnd
    (Prog.ret (Value.tuple ⟨((Value.int IntKind.i64 (5 : Int)) :: ((Value.int IntKind.i64 (-9223372036854775808 : Int)) :: ((Value.bool Bool.true) :: [])))⟩))
    (cnd
      (Prog.ret (Value.tuple ⟨((Value.int IntKind.i64 x5) :: ((Value.int IntKind.i64 (-9223372036854775808 : Int)) :: ((Value.bool Bool.true) :: [])))⟩))
      (Prog.call (callF En (runP En f) 178 [(Value.string x0), (Value.string (mkStr [46]))]) fun v2 =>
        (cnd
          (cnd
            (Prog.call (callF En (runP En f) 192 [(Value.string x0), (Value.int IntKind.i64 (10 : Int)), (Value.int IntKind.i64 (64 : Int))]) fun v3 =>
              (cnd
                (Prog.seg (binP En BinOp.eql 103 (Operand.tmp 43) (Operand.const Value.nilIface) (at_ (tupOf v3) 1) Value.nilIface) fun v4 s5 _ =>
                  (Prog.ret (Value.tuple ⟨((Value.int IntKind.i64 x5) :: ((Value.int IntKind.i64 (intOf (at_ (tupOf v3) 0))) :: (v4 :: [])))⟩)))
                Prog.fail
                ((isTupV v3) && (okNs ((Nm.one (Kd.int IntKind.i64)) :: ((Nm.one Kd.raw) :: [])) (tupOf v3)))))
            (cnd
              (Prog.ret (Value.tuple ⟨((Value.int IntKind.i64 (0 : Int)) :: ((Value.int IntKind.i64 (0 : Int)) :: ((Value.bool Bool.false) :: [])))⟩))
              (cnd
                (cnd
                  (cnd
                    (Prog.call (callF En (runP En f) 192 [(Value.string (mkStr (((Array.toList (ByteArray.data (strOf (at_ (tupOf v2) 0)))) ++ (Array.toList (ByteArray.data (strOf (at_ (tupOf v2) 1))))) ++ (List.take (4 - (List.length (Array.toList (ByteArray.data (strOf (at_ (tupOf v2) 1)))))) (List.drop (List.length (Array.toList (ByteArray.data (strOf (at_ (tupOf v2) 1))))) ((48 : UInt8) :: ((48 : UInt8) :: ((48 : UInt8) :: ((48 : UInt8) :: []))))))))), (Value.int IntKind.i64 (10 : Int)), (Value.int IntKind.i64 (64 : Int))]) fun v6 =>
                      (cnd
                        (Prog.seg (binP En BinOp.eql 103 (Operand.tmp 60) (Operand.const Value.nilIface) (at_ (tupOf v6) 1) Value.nilIface) fun v7 s8 _ =>
                          (Prog.ret (Value.tuple ⟨((Value.int IntKind.i64 (5 : Int)) :: ((Value.int IntKind.i64 (intOf (at_ (tupOf v6) 0))) :: (v7 :: [])))⟩)))
                        Prog.fail
                        ((isTupV v6) && (okNs ((Nm.one (Kd.int IntKind.i64)) :: ((Nm.one Kd.raw) :: [])) (tupOf v6)))))
                    Prog.fail
                    (Nat.ble ((List.length ((Array.toList (ByteArray.data (strOf (at_ (tupOf v2) 0)))) ++ (Array.toList (ByteArray.data (strOf (at_ (tupOf v2) 1)))))) + (List.length (List.take (4 - (List.length (Array.toList (ByteArray.data (strOf (at_ (tupOf v2) 1)))))) (List.drop (List.length (Array.toList (ByteArray.data (strOf (at_ (tupOf v2) 1))))) ((48 : UInt8) :: ((48 : UInt8) :: ((48 : UInt8) :: ((48 : UInt8) :: [])))))))) 9223372036854775807))
                  Prog.fail
                  ((Nat.ble (List.length (Array.toList (ByteArray.data (strOf (at_ (tupOf v2) 1))))) 4) && Bool.true))
                Prog.fail
                (Nat.ble ((List.length (Array.toList (ByteArray.data (strOf (at_ (tupOf v2) 0))))) + (List.length (Array.toList (ByteArray.data (strOf (at_ (tupOf v2) 1)))))) 9223372036854775807))
              (decide ((Int.ofNat (List.length (Array.toList (ByteArray.data (strOf (at_ (tupOf v2) 1)))))) > (4 : Int))))
            (Bool.not (boolOf (at_ (tupOf v2) 2))))
          Prog.fail
          ((isTupV v2) && (okNs ((Nm.one Kd.str) :: ((Nm.one Kd.str) :: ((Nm.one Kd.bool) :: []))) (tupOf v2)))))
      (beqB (Array.toList (ByteArray.data x0)) ((48 : UInt8) :: ((78 : UInt8) :: []))))
    (beqB (Array.toList (ByteArray.data x0)) ((48 : UInt8) :: ((78 : UInt8) :: ((100 : UInt8) :: []))))) := by kernel_rfl
theorem f151_eq (f : Nat) (x0 : ByteArray) : callF En (runP En (f + 1)) 151 [(Value.string x0)] =
  (Prog.call (callF En (runP En f) 117 [(Value.string x0), (Value.string (mkStr [116]))]) fun v9 =>
    (cnd
      (cnd
        (p151_5 f (strOf (at_ (tupOf v9) 0)) (4 : Int))
        (p151_5 f x0 (2 : Int))
        (boolOf (at_ (tupOf v9) 1)))
      Prog.fail
      ((isTupV v9) && (okNs ((Nm.one Kd.str) :: ((Nm.one Kd.bool) :: [])) (tupOf v9))))) := by kernel_rfl
end Go.Proofs.YtmjbmbmnnephjaaGreatDoor
/- What comes of the points of a function: printed by the tool. -/
namespace Go.Proofs.YtmjbmbmnnephjaaGreatDoor
open Go Go.Ev Go.Proofs
set_option maxRecDepth 8000
set_option linter.unusedVariables false
theorem f160_eq (f : Nat) (x0 : Int) : callF En (runP En (f + 1)) 160 [(Value.int IntKind.i64 x0)] =
  (cnd
    (Prog.ret (Value.bool (decide (x0 ≤ (5 : Int)))))
    (Prog.ret (Value.bool Bool.false))
    (decide (x0 ≥ (1 : Int)))) := by kernel_rfl
end Go.Proofs.YtmjbmbmnnephjaaGreatDoor
/- What comes of the points of a function: printed by the tool. -/
namespace Go.Proofs.YtmjbmbmnnephjaaGreatDoor
open Go Go.Ev Go.Proofs
set_option maxRecDepth 8000
set_option linter.unusedVariables false
theorem f171_eq (f : Nat) (x0 : Nat) (x1 : Int) : callF En (runP En (f + 1)) 171 [(Value.pointer (Option.some (Addr.mk x0 0 Option.none))), (Value.int IntKind.u8 x1)] =
  (cnd
    (cnd
      (callP (fun v2 =>
        (cnd
          (Prog.ret (Value.bool (boolOf v2)))
          Prog.fail
          (okK Kd.bool v2)))
        (loadT En 4 x0 (0 + ((Int.toNat x1) * 1))))
      Prog.fail
      ((Nat.ble (Nat.succ (Int.toNat x1)) 256) && Bool.true))
    Prog.fail
    (decide ((0 : Int) ≤ x1))) := by kernel_rfl
end Go.Proofs.YtmjbmbmnnephjaaGreatDoor
/- What comes of the points of a function: printed by the tool. -/
namespace Go.Proofs.YtmjbmbmnnephjaaGreatDoor
open Go Go.Ev Go.Proofs
set_option maxRecDepth 8000
set_option linter.unusedVariables false
theorem f174_eq (f : Nat) (x0 : ByteArray) (x1 : ByteArray) : callF En (runP En (f + 1)) 174 [(Value.string x0), (Value.string x1)] =
  (Prog.call (callF En (runP En f) 211 [(Value.string x0), (Value.string x1)]) fun v2 =>
    (cnd
      (cnd
        (Prog.ret (Value.tuple ⟨((Value.string x0) :: ((Value.bool Bool.false) :: []))⟩))
        (cnd
          (cnd
            (Prog.ret (Value.tuple ⟨((Value.string (mkStr (List.take ((Int.toNat (IntKind.wrap IntKind.i64 ((Int.ofNat (List.length (Array.toList (ByteArray.data x0)))) + (Int.negOfNat (List.length (Array.toList (ByteArray.data x1))))))) - 0) (Array.toList (ByteArray.data x0))))) :: ((Value.bool Bool.true) :: []))⟩))
            Prog.fail
            ((Nat.ble 0 (Int.toNat (IntKind.wrap IntKind.i64 ((Int.ofNat (List.length (Array.toList (ByteArray.data x0)))) + (Int.negOfNat (List.length (Array.toList (ByteArray.data x1)))))))) && (Nat.ble (Int.toNat (IntKind.wrap IntKind.i64 ((Int.ofNat (List.length (Array.toList (ByteArray.data x0)))) + (Int.negOfNat (List.length (Array.toList (ByteArray.data x1))))))) (List.length (Array.toList (ByteArray.data x0))))))
          Prog.fail
          (decide ((0 : Int) ≤ (IntKind.wrap IntKind.i64 ((Int.ofNat (List.length (Array.toList (ByteArray.data x0)))) + (Int.negOfNat (List.length (Array.toList (ByteArray.data x1)))))))))
        (Bool.not (boolOf v2)))
      Prog.fail
      (okK Kd.bool v2))) := by kernel_rfl
end Go.Proofs.YtmjbmbmnnephjaaGreatDoor
/- What comes of the points of a function: printed by the tool. -/
namespace Go.Proofs.YtmjbmbmnnephjaaGreatDoor
open Go Go.Ev Go.Proofs
set_option maxRecDepth 8000
set_option linter.unusedVariables false
noncomputable def p176_1 (f : Nat) (x0 : ByteArray) (x1 : Nat) : Prog := runP En f 176 (tmL 16 [(0, (Value.string x0)), (1, (Value.pointer (Option.some (Addr.mk x1 0 Option.none))))]) [.code (cL (cL (cI (cI (cL (cR (cB 176))))))), .code (cR (cL (cI (cI (cL (cR (cB 176))))))), .code (cR (cI (cI (cL (cR (cB 176)))))), .inLoop (cI (cI (cL (cR (cB 176))))), .inBlock 0, .code (cR (cR (cB 176)))] [] none
noncomputable def p176_4 (f : Nat) (x0 : ByteArray) : Prog := runP En f 176 (tmL 16 [(0, (Value.string x0))]) [.code (cL (cR (cR (cB 176)))), .code (cR (cR (cR (cB 176))))] [] none
theorem p176_1_eq (f : Nat) (x0 : ByteArray) (x1 : Nat) : p176_1 (f + 1) x0 x1 =
  (cnd
    (cnd
      (Prog.call (callF En (runP En f) 171 [(Value.pointer (Option.some (Addr.mk x1 0 Option.none))), (Value.int IntKind.u8 (Int.ofNat (byteAt x0 0)))]) fun v2 =>
        (cnd
          (cnd
            (p176_4 f x0)
            (cnd
              (p176_1 f (mkStr (List.take ((List.length (Array.toList (ByteArray.data x0))) - 1) (List.drop 1 (Array.toList (ByteArray.data x0))))) x1)
              Prog.fail
              ((Nat.ble 1 (List.length (Array.toList (ByteArray.data x0)))) && (Nat.ble (List.length (Array.toList (ByteArray.data x0))) (List.length (Array.toList (ByteArray.data x0))))))
            (Bool.not (boolOf v2)))
          Prog.fail
          (okK Kd.bool v2)))
      Prog.fail
      (Nat.ble 1 (List.length (Array.toList (ByteArray.data x0)))))
    (p176_4 f x0)
    (decide ((Int.ofNat (List.length (Array.toList (ByteArray.data x0)))) > (0 : Int)))) := by kernel_rfl
theorem p176_4_eq (f : Nat) (x0 : ByteArray) : p176_4 (f + 1) x0 =
  (Prog.ret (Value.string x0)) := by kernel_rfl
theorem f176_eq (f : Nat) (x0 : ByteArray) (x1 : Nat) : callF En (runP En (f + 1)) 176 [(Value.string x0), (Value.pointer (Option.some (Addr.mk x1 0 Option.none)))] =
  (p176_1 f x0 x1) := by kernel_rfl
end Go.Proofs.YtmjbmbmnnephjaaGreatDoor
/- What comes of the points of a function: printed by the tool. -/
namespace Go.Proofs.YtmjbmbmnnephjaaGreatDoor
open Go Go.Ev Go.Proofs
set_option maxRecDepth 8000
set_option linter.unusedVariables false
theorem f178_eq (f : Nat) (x0 : ByteArray) (x1 : ByteArray) : callF En (runP En (f + 1)) 178 [(Value.string x0), (Value.string x1)] =
  (Prog.call (callF En (runP En f) 212 [(Value.string x0), (Value.string x1)]) fun v2 =>
    (cnd
      (Prog.ret (Value.tuple ⟨((Value.string (strOf (at_ (tupOf v2) 0))) :: ((Value.string (strOf (at_ (tupOf v2) 1))) :: ((Value.bool (boolOf (at_ (tupOf v2) 2))) :: [])))⟩))
      Prog.fail
      ((isTupV v2) && (okNs ((Nm.one Kd.str) :: ((Nm.one Kd.str) :: ((Nm.one Kd.bool) :: []))) (tupOf v2))))) := by kernel_rfl
end Go.Proofs.YtmjbmbmnnephjaaGreatDoor
/- What comes of the points of a function: printed by the tool. -/
namespace Go.Proofs.YtmjbmbmnnephjaaGreatDoor
open Go Go.Ev Go.Proofs
set_option maxRecDepth 8000
set_option linter.unusedVariables false
theorem f179_eq (f : Nat) (x0 : ByteArray) (x1 : Int) (x2 : Int) : callF En (runP En (f + 1)) 179 [(Value.string x0), (Value.int IntKind.i64 x1), (Value.int IntKind.i64 x2)] =
  (Prog.call (callF En (runP En f) 213 [(Value.string x0), (Value.int IntKind.i64 x1), (Value.int IntKind.i64 x2)]) fun v4 =>
    (cnd
      (binK En BinOp.neq 103 (Operand.tmp 17) (Operand.const Value.nilIface) (at_ (tupOf v4) 1) Value.nilIface fun v5 =>
        (cnd
          (cnd
            (Prog.call (callF En (runP En f) 214 [(Value.string (mkStr [80, 97, 114, 115, 101, 85, 105, 110, 116])), (Value.string x0), (Value.int IntKind.i64 x1), (Value.int IntKind.i64 x2), (at_ (tupOf v4) 1)]) fun v6 =>
              (Prog.ret (Value.tuple ⟨((Value.int IntKind.u64 (intOf (at_ (tupOf v4) 0))) :: (v6 :: []))⟩)))
            (Prog.ret (Value.tuple ⟨((Value.int IntKind.u64 (intOf (at_ (tupOf v4) 0))) :: (Value.nilIface :: []))⟩))
            (boolOf v5))
          Prog.fail
          (okK Kd.bool v5)))
      Prog.fail
      ((isTupV v4) && (okNs ((Nm.one (Kd.int IntKind.u64)) :: ((Nm.one Kd.raw) :: [])) (tupOf v4))))) := by kernel_rfl
end Go.Proofs.YtmjbmbmnnephjaaGreatDoor
/- What comes of the points of a function: printed by the tool. -/
namespace Go.Proofs.YtmjbmbmnnephjaaGreatDoor
open Go Go.Ev Go.Proofs
set_option maxRecDepth 8000
set_option linter.unusedVariables false
theorem f184_eq (f : Nat) (x0 : ByteArray) (x1 : ByteArray) : callF En (runP En (f + 1)) 184 [(Value.string x0), (Value.string x1)] =
  (Prog.call (callF En (runP En f) 141 [(Value.string x0), (Value.string x1)]) fun v2 =>
    (cnd
      (cnd
        (Prog.ret (Value.tuple ⟨((Value.string x0) :: ((Value.bool Bool.false) :: []))⟩))
        (cnd
          (Prog.ret (Value.tuple ⟨((Value.string (mkStr (List.take ((List.length (Array.toList (ByteArray.data x0))) - (List.length (Array.toList (ByteArray.data x1)))) (List.drop (List.length (Array.toList (ByteArray.data x1))) (Array.toList (ByteArray.data x0)))))) :: ((Value.bool Bool.true) :: []))⟩))
          Prog.fail
          ((Nat.ble (List.length (Array.toList (ByteArray.data x1))) (List.length (Array.toList (ByteArray.data x0)))) && (Nat.ble (List.length (Array.toList (ByteArray.data x0))) (List.length (Array.toList (ByteArray.data x0))))))
        (Bool.not (boolOf v2)))
      Prog.fail
      (okK Kd.bool v2))) := by kernel_rfl
end Go.Proofs.YtmjbmbmnnephjaaGreatDoor
/- What comes of the points of a function: printed by the tool. -/
namespace Go.Proofs.YtmjbmbmnnephjaaGreatDoor
open Go Go.Ev Go.Proofs
set_option maxRecDepth 8000
set_option linter.unusedVariables false
theorem f211_eq (f : Nat) (x0 : ByteArray) (x1 : ByteArray) : callF En (runP En (f + 1)) 211 [(Value.string x0), (Value.string x1)] =
  (cnd
    (cnd
      (cnd
        (Prog.ret (Value.bool (beqB (List.take ((List.length (Array.toList (ByteArray.data x0))) - (Int.toNat (IntKind.wrap IntKind.i64 ((Int.ofNat (List.length (Array.toList (ByteArray.data x0)))) + (Int.negOfNat (List.length (Array.toList (ByteArray.data x1)))))))) (List.drop (Int.toNat (IntKind.wrap IntKind.i64 ((Int.ofNat (List.length (Array.toList (ByteArray.data x0)))) + (Int.negOfNat (List.length (Array.toList (ByteArray.data x1))))))) (Array.toList (ByteArray.data x0)))) (Array.toList (ByteArray.data x1)))))
        Prog.fail
        ((Nat.ble (Int.toNat (IntKind.wrap IntKind.i64 ((Int.ofNat (List.length (Array.toList (ByteArray.data x0)))) + (Int.negOfNat (List.length (Array.toList (ByteArray.data x1))))))) (List.length (Array.toList (ByteArray.data x0)))) && (Nat.ble (List.length (Array.toList (ByteArray.data x0))) (List.length (Array.toList (ByteArray.data x0))))))
      Prog.fail
      (decide ((0 : Int) ≤ (IntKind.wrap IntKind.i64 ((Int.ofNat (List.length (Array.toList (ByteArray.data x0)))) + (Int.negOfNat (List.length (Array.toList (ByteArray.data x1)))))))))
    (Prog.ret (Value.bool Bool.false))
    (decide ((Int.ofNat (List.length (Array.toList (ByteArray.data x0)))) ≥ (Int.ofNat (List.length (Array.toList (ByteArray.data x1))))))) := by kernel_rfl
end Go.Proofs.YtmjbmbmnnephjaaGreatDoor
/- What comes of the points of a function: printed by the tool. -/
namespace Go.Proofs.YtmjbmbmnnephjaaGreatDoor
open Go Go.Ev Go.Proofs
set_option maxRecDepth 8000
set_option linter.unusedVariables false
theorem f212_eq (f : Nat) (x0 : ByteArray) (x1 : ByteArray) : callF En (runP En (f + 1)) 212 [(Value.string x0), (Value.string x1)] =
  (Prog.call (callF En (runP En f) 226 [(Value.string x0), (Value.string x1)]) fun v2 =>
    (cnd
      (cnd
        (cnd
          (cnd
            (cnd
              (cnd
                (Prog.ret (Value.tuple ⟨((Value.string (mkStr (List.take ((Int.toNat (intOf v2)) - 0) (Array.toList (ByteArray.data x0))))) :: ((Value.string (mkStr (List.take ((List.length (Array.toList (ByteArray.data x0))) - (Int.toNat (IntKind.wrap IntKind.i64 ((intOf v2) + (Int.ofNat (List.length (Array.toList (ByteArray.data x1)))))))) (List.drop (Int.toNat (IntKind.wrap IntKind.i64 ((intOf v2) + (Int.ofNat (List.length (Array.toList (ByteArray.data x1))))))) (Array.toList (ByteArray.data x0)))))) :: ((Value.bool Bool.true) :: [])))⟩))
                Prog.fail
                ((Nat.ble (Int.toNat (IntKind.wrap IntKind.i64 ((intOf v2) + (Int.ofNat (List.length (Array.toList (ByteArray.data x1))))))) (List.length (Array.toList (ByteArray.data x0)))) && (Nat.ble (List.length (Array.toList (ByteArray.data x0))) (List.length (Array.toList (ByteArray.data x0))))))
              Prog.fail
              (decide ((0 : Int) ≤ (IntKind.wrap IntKind.i64 ((intOf v2) + (Int.ofNat (List.length (Array.toList (ByteArray.data x1)))))))))
            Prog.fail
            ((Nat.ble 0 (Int.toNat (intOf v2))) && (Nat.ble (Int.toNat (intOf v2)) (List.length (Array.toList (ByteArray.data x0))))))
          Prog.fail
          (decide ((0 : Int) ≤ (intOf v2))))
        (Prog.ret (Value.tuple ⟨((Value.string x0) :: ((Value.string (mkStr [])) :: ((Value.bool Bool.false) :: [])))⟩))
        (decide ((intOf v2) ≥ (0 : Int))))
      Prog.fail
      (okK (Kd.int IntKind.i64) v2))) := by kernel_rfl
end Go.Proofs.YtmjbmbmnnephjaaGreatDoor
