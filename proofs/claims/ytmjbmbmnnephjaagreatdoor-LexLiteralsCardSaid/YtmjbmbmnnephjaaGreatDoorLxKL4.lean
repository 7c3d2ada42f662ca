/- What comes of the points of a function: printed by the tool. -/
import Derived.Test.YtmjbmbmnnephjaaGreatDoorLxKL2
namespace Go.Proofs.YtmjbmbmnnephjaaGreatDoor
open Go Go.Ev Go.Proofs
set_option maxRecDepth 8000
set_option linter.unusedVariables false
noncomputable def p213_21 (f : Nat) (x0 : ByteArray) (x1 : Int) (x2 : Int) (x8 : Bool) (x9 : ByteArray) : Prog := runP En f 213 (tmL 172 [(0, (Value.string x0)), (1, (Value.int IntKind.i64 x1)), (2, (Value.int IntKind.i64 x2)), (8, (Value.bool x8)), (9, (Value.string x9))]) [.code (cL (cL (cR (cR (cR (cR (cR (cB 213)))))))), .code (cR (cL (cR (cR (cR (cR (cR (cB 213)))))))), .code (cR (cR (cR (cR (cR (cR (cB 213)))))))] [] none
noncomputable def p213_25 (f : Nat) (x0 : ByteArray) (x1 : Int) (x2 : Int) (x8 : Bool) (x9 : ByteArray) : Prog := runP En f 213 (tmL 172 [(0, (Value.string x0)), (1, (Value.int IntKind.i64 x1)), (2, (Value.int IntKind.i64 x2)), (8, (Value.bool x8)), (9, (Value.string x9))]) [.code (cL (cR (cR (cR (cR (cR (cR (cB 213)))))))), .code (cR (cR (cR (cR (cR (cR (cR (cB 213))))))))] [] none
noncomputable def p213_32 (f : Nat) (x0 : ByteArray) (x1 : Int) (x2 : Int) (x8 : Bool) (x9 : ByteArray) (x10 : Int) : Prog := runP En f 213 (tmL 172 [(0, (Value.string x0)), (1, (Value.int IntKind.i64 x1)), (2, (Value.int IntKind.i64 x2)), (8, (Value.bool x8)), (9, (Value.string x9)), (10, (Value.int IntKind.u64 x10))]) [.code (cL (cR (cR (cR (cR (cR (cR (cR (cR (cB 213)))))))))), .code (cR (cR (cR (cR (cR (cR (cR (cR (cR (cB 213))))))))))] [] none
noncomputable def p213_36 (f : Nat) (x1 : Int) (x8 : Bool) (x9 : ByteArray) (x10 : Int) (x11 : Int) (x12 : Bool) (x13 : Int) (x99 : Nat) (x99o : Nat) (x99n : Nat) (x99c : Nat) (x100 : Int) (x101 : Int) : Prog := runP En f 213 (tmL 172 [(1, (Value.int IntKind.i64 x1)), (8, (Value.bool x8)), (9, (Value.string x9)), (10, (Value.int IntKind.u64 x10)), (11, (Value.int IntKind.u64 x11)), (12, (Value.bool x12)), (13, (Value.int IntKind.u64 x13)), (99, (Value.slice (Option.some (Addr.mk x99 x99o Option.none)) x99n x99c)), (100, (Value.int IntKind.i64 x100)), (101, (Value.int IntKind.i64 x101))]) [.code (cL (cI (cI (cR (cL (cR (cR (cR (cR (cR (cR (cR (cR (cR (cR (cR (cB 213))))))))))))))))), .code (cR (cI (cI (cR (cL (cR (cR (cR (cR (cR (cR (cR (cR (cR (cR (cR (cB 213))))))))))))))))), .inLoop (cI (cI (cR (cL (cR (cR (cR (cR (cR (cR (cR (cR (cR (cR (cR (cB 213)))))))))))))))), .inBlock 3, .code (cR (cR (cR (cR (cR (cR (cR (cR (cR (cR (cR (cR (cB 213)))))))))))))] [] none
noncomputable def p213_55 (f : Nat) (x1 : Int) (x8 : Bool) (x9 : ByteArray) (x10 : Int) (x11 : Int) (x12 : Bool) (x13 : Int) (x99 : Nat) (x99o : Nat) (x99n : Nat) (x99c : Nat) (x100 : Int) (x101 : Int) : Prog := runP En f 213 (tmL 172 [(1, (Value.int IntKind.i64 x1)), (8, (Value.bool x8)), (9, (Value.string x9)), (10, (Value.int IntKind.u64 x10)), (11, (Value.int IntKind.u64 x11)), (12, (Value.bool x12)), (13, (Value.int IntKind.u64 x13)), (99, (Value.slice (Option.some (Addr.mk x99 x99o Option.none)) x99n x99c)), (100, (Value.int IntKind.i64 x100)), (101, (Value.int IntKind.i64 x101))]) [.code (cR (cR (cR (cI (cI (cR (cL (cR (cR (cR (cR (cR (cR (cR (cR (cR (cR (cR (cB 213))))))))))))))))))), .inLoop (cI (cI (cR (cL (cR (cR (cR (cR (cR (cR (cR (cR (cR (cR (cR (cB 213)))))))))))))))), .inBlock 3, .code (cR (cR (cR (cR (cR (cR (cR (cR (cR (cR (cR (cR (cB 213)))))))))))))] [] none
noncomputable def p213_46 (f : Nat) (x1 : Int) (x8 : Bool) (x9 : ByteArray) (x10 : Int) (x11 : Int) (x12 : Bool) (x13 : Int) (x16 : Int) (x99 : Nat) (x99o : Nat) (x99n : Nat) (x99c : Nat) (x100 : Int) (x101 : Int) : Prog := runP En f 213 (tmL 172 [(1, (Value.int IntKind.i64 x1)), (8, (Value.bool x8)), (9, (Value.string x9)), (10, (Value.int IntKind.u64 x10)), (11, (Value.int IntKind.u64 x11)), (12, (Value.bool x12)), (13, (Value.int IntKind.u64 x13)), (16, (Value.int IntKind.u8 x16)), (99, (Value.slice (Option.some (Addr.mk x99 x99o Option.none)) x99n x99c)), (100, (Value.int IntKind.i64 x100)), (101, (Value.int IntKind.i64 x101))]) [.code (cL (cL (cR (cR (cR (cI (cL (cR (cR (cI (cI (cR (cL (cR (cR (cR (cR (cR (cR (cR (cR (cR (cR (cR (cB 213))))))))))))))))))))))))), .code (cR (cL (cR (cR (cR (cI (cL (cR (cR (cI (cI (cR (cL (cR (cR (cR (cR (cR (cR (cR (cR (cR (cR (cR (cB 213))))))))))))))))))))))))), .code (cR (cR (cR (cR (cI (cL (cR (cR (cI (cI (cR (cL (cR (cR (cR (cR (cR (cR (cR (cR (cR (cR (cR (cB 213)))))))))))))))))))))))), .inBlock 4, .code (cR (cR (cR (cI (cI (cR (cL (cR (cR (cR (cR (cR (cR (cR (cR (cR (cR (cR (cB 213))))))))))))))))))), .inLoop (cI (cI (cR (cL (cR (cR (cR (cR (cR (cR (cR (cR (cR (cR (cR (cB 213)))))))))))))))), .inBlock 3, .code (cR (cR (cR (cR (cR (cR (cR (cR (cR (cR (cR (cR (cB 213)))))))))))))] [] none
theorem p213_21_eq (f : Nat) (x0 : ByteArray) (x1 : Int) (x2 : Int) (x8 : Bool) (x9 : ByteArray) : p213_21 (f + 1) x0 x1 x2 x8 x9 =
 (cnd
 (p213_25 f x0 x1 (64 : Int) x8 x9)
 (cnd
 (Prog.ret (Value.tuple ⟨((Value.int IntKind.u64 (0 : Int)) :: ((Value.iface 190 (Value.int IntKind.i64 (4 : Int))) :: []))⟩))
 (cnd
 (Prog.ret (Value.tuple ⟨((Value.int IntKind.u64 (0 : Int)) :: ((Value.iface 190 (Value.int IntKind.i64 (4 : Int))) :: []))⟩))
 (p213_25 f x0 x1 x2 x8 x9)
 (decide (x2 > (64 : Int))))
 (decide (x2 < (0 : Int))))
 (decide (x2 = (0 : Int)))) := by kernel_rfl
theorem p213_25_eq (f : Nat) (x0 : ByteArray) (x1 : Int) (x2 : Int) (x8 : Bool) (x9 : ByteArray) : p213_25 (f + 1) x0 x1 x2 x8 x9 =
 (cnd
 (p213_32 f x0 x1 x2 x8 x9 (1844674407370955162 : Int))
 (cnd
 (p213_32 f x0 x1 x2 x8 x9 (1152921504606846976 : Int))
 (cnd
 (p213_32 f x0 x1 x2 x8 x9 (IntKind.wrap IntKind.u64 ((IntKind.wrap IntKind.u64 (Int.tdiv (18446744073709551615 : Int) (IntKind.wrap IntKind.u64 x1))) + (1 : Int))))
 Prog.fail
 (decide ((IntKind.wrap IntKind.u64 x1) ≠ (0 : Int))))
 (decide (x1 = (16 : Int))))
 (decide (x1 = (10 : Int)))) := by kernel_rfl
theorem p213_32_eq (f : Nat) (x0 : ByteArray) (x1 : Int) (x2 : Int) (x8 : Bool) (x9 : ByteArray) (x10 : Int) : p213_32 (f + 1) x0 x1 x2 x8 x9 x10 =
 (cnd
 (callP (fun v22 =>
 (cnd
 (p213_36 f x1 x8 x9 x10 (IntKind.wrap IntKind.u64 ((IntKind.wrap IntKind.u64 (Int.ofNat (1 * (Nat.pow 2 (if ((Int.toNat (IntKind.wrap IntKind.u64 x2)) ≤ 64) then (Int.toNat (IntKind.wrap IntKind.u64 x2)) else 64))))) + (-1 : Int))) Bool.false (0 : Int) (sBlk v22) (sOff v22) (sLen v22) (sCap v22) (Int.ofNat (sLen v22)) (0 : Int))
 Prog.fail
 (isSl v22)))
 (Prog.newH (Hdr.mk (List.length (List.map (fun z19 => (Value.int IntKind.u8 (Nat.cast (UInt8.toNat z19)))) (Array.toList (ByteArray.data x0)))) 5 Bool.false Bool.false Bool.true 0 Bool.true Bool.false []) (List.map (fun z20 => (Value.int IntKind.u8 (Nat.cast (UInt8.toNat z20)))) (Array.toList (ByteArray.data x0))) (fun z21 => (Prog.ret (Value.slice (Option.some (Addr.mk z21 (OfNat.ofNat 0) Option.none)) (List.length (Array.toList (ByteArray.data x0))) (capOf (List.length (Array.toList (ByteArray.data x0))) Bool.false))))))
 Prog.fail
 (decide ((0 : Int) ≤ (IntKind.wrap IntKind.u64 x2)))) := by kernel_rfl
theorem p213_36_eq (f : Nat) (x1 : Int) (x8 : Bool) (x9 : ByteArray) (x10 : Int) (x11 : Int) (x12 : Bool) (x13 : Int) (x99 : Nat) (x99o : Nat) (x99n : Nat) (x99c : Nat) (x100 : Int) (x101 : Int) : p213_36 (f + 1) x1 x8 x9 x10 x11 x12 x13 x99 x99o x99n x99c x100 x101 =
 (cnd
 (cnd
 (cnd
 (callP (fun v23 =>
 (cnd
 (cnd
 (cnd
 (p213_55 f x1 x8 x9 x10 x11 Bool.true x13 x99 x99o x99n x99c x100 x101)
 (cnd
 (cnd
 (p213_46 f x1 x8 x9 x10 x11 x12 x13 (IntKind.wrap IntKind.u8 ((intOf v23) + (-48 : Int))) x99 x99o x99n x99c x100 x101)
 (Prog.call (callF En (runP En f) 227 [(Value.int IntKind.u8 (intOf v23))]) fun v24 =>
 (cnd
 (cnd
 (Prog.call (callF En (runP En f) 227 [(Value.int IntKind.u8 (intOf v23))]) fun v25 =>
 (cnd
 (cnd
 (Prog.call (callF En (runP En f) 227 [(Value.int IntKind.u8 (intOf v23))]) fun v26 =>
 (cnd
 (p213_46 f x1 x8 x9 x10 x11 x12 x13 (IntKind.wrap IntKind.u8 ((IntKind.wrap IntKind.u8 ((intOf v26) + (-97 : Int))) + (10 : Int))) x99 x99o x99n x99c x100 x101)
 Prog.fail
 (okK (Kd.int IntKind.u8) v26)))
 (Prog.ret (Value.tuple ⟨((Value.int IntKind.u64 (0 : Int)) :: ((Value.iface 190 (Value.int IntKind.i64 (2 : Int))) :: []))⟩))
 (decide ((intOf v25) ≤ (122 : Int))))
 Prog.fail
 (okK (Kd.int IntKind.u8) v25)))
 (Prog.ret (Value.tuple ⟨((Value.int IntKind.u64 (0 : Int)) :: ((Value.iface 190 (Value.int IntKind.i64 (2 : Int))) :: []))⟩))
 (decide ((97 : Int) ≤ (intOf v24))))
 Prog.fail
 (okK (Kd.int IntKind.u8) v24)))
 (decide ((intOf v23) ≤ (57 : Int))))
 (Prog.call (callF En (runP En f) 227 [(Value.int IntKind.u8 (intOf v23))]) fun v27 =>
 (cnd
 (cnd
 (Prog.call (callF En (runP En f) 227 [(Value.int IntKind.u8 (intOf v23))]) fun v28 =>
 (cnd
 (cnd
 (Prog.call (callF En (runP En f) 227 [(Value.int IntKind.u8 (intOf v23))]) fun v29 =>
 (cnd
 (p213_46 f x1 x8 x9 x10 x11 x12 x13 (IntKind.wrap IntKind.u8 ((IntKind.wrap IntKind.u8 ((intOf v29) + (-97 : Int))) + (10 : Int))) x99 x99o x99n x99c x100 x101)
 Prog.fail
 (okK (Kd.int IntKind.u8) v29)))
 (Prog.ret (Value.tuple ⟨((Value.int IntKind.u64 (0 : Int)) :: ((Value.iface 190 (Value.int IntKind.i64 (2 : Int))) :: []))⟩))
 (decide ((intOf v28) ≤ (122 : Int))))
 Prog.fail
 (okK (Kd.int IntKind.u8) v28)))
 (Prog.ret (Value.tuple ⟨((Value.int IntKind.u64 (0 : Int)) :: ((Value.iface 190 (Value.int IntKind.i64 (2 : Int))) :: []))⟩))
 (decide ((97 : Int) ≤ (intOf v27))))
 Prog.fail
 (okK (Kd.int IntKind.u8) v27)))
 (decide ((48 : Int) ≤ (intOf v23))))
 x8)
 (cnd
 (cnd
 (p213_46 f x1 x8 x9 x10 x11 x12 x13 (IntKind.wrap IntKind.u8 ((intOf v23) + (-48 : Int))) x99 x99o x99n x99c x100 x101)
 (Prog.call (callF En (runP En f) 227 [(Value.int IntKind.u8 (intOf v23))]) fun v30 =>
 (cnd
 (cnd
 (Prog.call (callF En (runP En f) 227 [(Value.int IntKind.u8 (intOf v23))]) fun v31 =>
 (cnd
 (cnd
 (Prog.call (callF En (runP En f) 227 [(Value.int IntKind.u8 (intOf v23))]) fun v32 =>
 (cnd
 (p213_46 f x1 x8 x9 x10 x11 x12 x13 (IntKind.wrap IntKind.u8 ((IntKind.wrap IntKind.u8 ((intOf v32) + (-97 : Int))) + (10 : Int))) x99 x99o x99n x99c x100 x101)
 Prog.fail
 (okK (Kd.int IntKind.u8) v32)))
 (Prog.ret (Value.tuple ⟨((Value.int IntKind.u64 (0 : Int)) :: ((Value.iface 190 (Value.int IntKind.i64 (2 : Int))) :: []))⟩))
 (decide ((intOf v31) ≤ (122 : Int))))
 Prog.fail
 (okK (Kd.int IntKind.u8) v31)))
 (Prog.ret (Value.tuple ⟨((Value.int IntKind.u64 (0 : Int)) :: ((Value.iface 190 (Value.int IntKind.i64 (2 : Int))) :: []))⟩))
 (decide ((97 : Int) ≤ (intOf v30))))
 Prog.fail
 (okK (Kd.int IntKind.u8) v30)))
 (decide ((intOf v23) ≤ (57 : Int))))
 (Prog.call (callF En (runP En f) 227 [(Value.int IntKind.u8 (intOf v23))]) fun v33 =>
 (cnd
 (cnd
 (Prog.call (callF En (runP En f) 227 [(Value.int IntKind.u8 (intOf v23))]) fun v34 =>
 (cnd
 (cnd
 (Prog.call (callF En (runP En f) 227 [(Value.int IntKind.u8 (intOf v23))]) fun v35 =>
 (cnd
 (p213_46 f x1 x8 x9 x10 x11 x12 x13 (IntKind.wrap IntKind.u8 ((IntKind.wrap IntKind.u8 ((intOf v35) + (-97 : Int))) + (10 : Int))) x99 x99o x99n x99c x100 x101)
 Prog.fail
 (okK (Kd.int IntKind.u8) v35)))
 (Prog.ret (Value.tuple ⟨((Value.int IntKind.u64 (0 : Int)) :: ((Value.iface 190 (Value.int IntKind.i64 (2 : Int))) :: []))⟩))
 (decide ((intOf v34) ≤ (122 : Int))))
 Prog.fail
 (okK (Kd.int IntKind.u8) v34)))
 (Prog.ret (Value.tuple ⟨((Value.int IntKind.u64 (0 : Int)) :: ((Value.iface 190 (Value.int IntKind.i64 (2 : Int))) :: []))⟩))
 (decide ((97 : Int) ≤ (intOf v33))))
 Prog.fail
 (okK (Kd.int IntKind.u8) v33)))
 (decide ((48 : Int) ≤ (intOf v23))))
 (decide ((intOf v23) = (95 : Int))))
 Prog.fail
 (okK (Kd.int IntKind.u8) v23)))
 (loadT En 5 x99 (x99o + ((Int.toNat x101) * 1))))
 Prog.fail
 ((Nat.ble (Nat.succ (Int.toNat x101)) x99n) && Bool.true))
 Prog.fail
 (decide ((0 : Int) ≤ x101)))
 (cnd
 (Prog.call (callF En (runP En f) 228 [(Value.string x9)]) fun v36 =>
 (cnd
 (cnd
 (Prog.ret (Value.tuple ⟨((Value.int IntKind.u64 (0 : Int)) :: ((Value.iface 190 (Value.int IntKind.i64 (2 : Int))) :: []))⟩))
 (Prog.ret (Value.tuple ⟨((Value.int IntKind.u64 x13) :: (Value.nilIface :: []))⟩))
 (Bool.not (boolOf v36)))
 Prog.fail
 (okK Kd.bool v36)))
 (Prog.ret (Value.tuple ⟨((Value.int IntKind.u64 x13) :: (Value.nilIface :: []))⟩))
 x12)
 (decide (x101 < x100))) := by kernel_rfl
theorem p213_55_eq (f : Nat) (x1 : Int) (x8 : Bool) (x9 : ByteArray) (x10 : Int) (x11 : Int) (x12 : Bool) (x13 : Int) (x99 : Nat) (x99o : Nat) (x99n : Nat) (x99c : Nat) (x100 : Int) (x101 : Int) : p213_55 (f + 1) x1 x8 x9 x10 x11 x12 x13 x99 x99o x99n x99c x100 x101 =
 (p213_36 f x1 x8 x9 x10 x11 x12 x13 x99 x99o x99n x99c x100 (IntKind.wrap IntKind.i64 (x101 + (1 : Int)))) := by kernel_rfl
theorem p213_46_eq (f : Nat) (x1 : Int) (x8 : Bool) (x9 : ByteArray) (x10 : Int) (x11 : Int) (x12 : Bool) (x13 : Int) (x16 : Int) (x99 : Nat) (x99o : Nat) (x99n : Nat) (x99c : Nat) (x100 : Int) (x101 : Int) : p213_46 (f + 1) x1 x8 x9 x10 x11 x12 x13 x16 x99 x99o x99n x99c x100 x101 =
 (cnd
 (Prog.ret (Value.tuple ⟨((Value.int IntKind.u64 (0 : Int)) :: ((Value.iface 190 (Value.int IntKind.i64 (2 : Int))) :: []))⟩))
 (cnd
 (Prog.ret (Value.tuple ⟨((Value.int IntKind.u64 x11) :: ((Value.iface 190 (Value.int IntKind.i64 (1 : Int))) :: []))⟩))
 (cnd
 (Prog.ret (Value.tuple ⟨((Value.int IntKind.u64 x11) :: ((Value.iface 190 (Value.int IntKind.i64 (1 : Int))) :: []))⟩))
 (cnd
 (Prog.ret (Value.tuple ⟨((Value.int IntKind.u64 x11) :: ((Value.iface 190 (Value.int IntKind.i64 (1 : Int))) :: []))⟩))
 (p213_55 f x1 x8 x9 x10 x11 x12 (IntKind.wrap IntKind.u64 ((IntKind.wrap IntKind.u64 (x13 * (IntKind.wrap IntKind.u64 x1))) + (IntKind.wrap IntKind.u64 x16))) x99 x99o x99n x99c x100 x101)
 (decide ((IntKind.wrap IntKind.u64 ((IntKind.wrap IntKind.u64 (x13 * (IntKind.wrap IntKind.u64 x1))) + (IntKind.wrap IntKind.u64 x16))) > x11)))
 (decide ((IntKind.wrap IntKind.u64 ((IntKind.wrap IntKind.u64 (x13 * (IntKind.wrap IntKind.u64 x1))) + (IntKind.wrap IntKind.u64 x16))) < (IntKind.wrap IntKind.u64 (x13 * (IntKind.wrap IntKind.u64 x1))))))
 (decide (x13 ≥ x10)))
 (decide (x16 ≥ (IntKind.wrap IntKind.u8 x1)))) := by kernel_rfl
theorem f213a_eq (f : Nat) (x0 : ByteArray) : callF En (runP En (f + 1)) 213 [(Value.string x0), (Value.int IntKind.i64 (10 : Int)), (Value.int IntKind.i64 (64 : Int))] =
 (cnd
 (Prog.ret (Value.tuple ⟨((Value.int IntKind.u64 (0 : Int)) :: ((Value.iface 190 (Value.int IntKind.i64 (2 : Int))) :: []))⟩))
 (p213_21 f x0 (10 : Int) (64 : Int) Bool.false x0)
 (beqB (Array.toList (ByteArray.data x0)) [])) := by kernel_rfl
theorem f213b_eq (f : Nat) (x0 : ByteArray) : callF En (runP En (f + 1)) 213 [(Value.string x0), (Value.int IntKind.i64 (16 : Int)), (Value.int IntKind.i64 (8 : Int))] =
 (cnd
 (Prog.ret (Value.tuple ⟨((Value.int IntKind.u64 (0 : Int)) :: ((Value.iface 190 (Value.int IntKind.i64 (2 : Int))) :: []))⟩))
 (p213_21 f x0 (16 : Int) (8 : Int) Bool.false x0)
 (beqB (Array.toList (ByteArray.data x0)) [])) := by kernel_rfl
end Go.Proofs.YtmjbmbmnnephjaaGreatDoor
/- What comes of the points of a function: printed by the tool. -/
namespace Go.Proofs.YtmjbmbmnnephjaaGreatDoor
open Go Go.Ev Go.Proofs
set_option maxRecDepth 8000
set_option linter.unusedVariables false
end Go.Proofs.YtmjbmbmnnephjaaGreatDoor
/- What comes of the points of a function: printed by the tool. -/
namespace Go.Proofs.YtmjbmbmnnephjaaGreatDoor
open Go Go.Ev Go.Proofs
set_option maxRecDepth 8000
set_option linter.unusedVariables false
theorem f226a_eq (f : Nat) (x0 : ByteArray) : callF En (runP En (f + 1)) 226 [(Value.string x0), (Value.string (mkStr [46]))] =
 (cnd
 (Prog.ret (Value.int IntKind.i64 (0 : Int)))
 (Prog.call (callF En (runP En f) 124 [(Value.string x0), (Value.int IntKind.u8 (46 : Int))]) fun v2 =>
 (cnd
 (Prog.ret (Value.int IntKind.i64 (intOf v2)))
 Prog.fail
 (okK (Kd.int IntKind.i64) v2)))
 (beqB ((46 : UInt8) :: []) (Array.toList (ByteArray.data x0)))) := by kernel_rfl
end Go.Proofs.YtmjbmbmnnephjaaGreatDoor
/- What comes of the points of a function: printed by the tool. -/
namespace Go.Proofs.YtmjbmbmnnephjaaGreatDoor
open Go Go.Ev Go.Proofs
set_option maxRecDepth 8000
set_option linter.unusedVariables false
theorem f227_eq (f : Nat) (x0 : Int) : callF En (runP En (f + 1)) 227 [(Value.int IntKind.u8 x0)] =
 (Prog.ret (Value.int IntKind.u8 (IntKind.wrap IntKind.u8 (Int.ofNat (Nat.lor (Int.toNat (Int.emod x0 (256 : Int))) 32))))) := by kernel_rfl
end Go.Proofs.YtmjbmbmnnephjaaGreatDoor
/- What comes of the points of a function: printed by the tool. -/
namespace Go.Proofs.YtmjbmbmnnephjaaGreatDoor
open Go Go.Ev Go.Proofs
set_option maxRecDepth 8000
set_option linter.unusedVariables false
end Go.Proofs.YtmjbmbmnnephjaaGreatDoor
/- What comes of the points of a function: printed by the tool. -/
namespace Go.Proofs.YtmjbmbmnnephjaaGreatDoor
open Go Go.Ev Go.Proofs
set_option maxRecDepth 8000
set_option linter.unusedVariables false
end Go.Proofs.YtmjbmbmnnephjaaGreatDoor
/- What comes of the points of a function: printed by the tool. -/
namespace Go.Proofs.YtmjbmbmnnephjaaGreatDoor
open Go Go.Ev Go.Proofs
set_option maxRecDepth 8000
set_option linter.unusedVariables false
end Go.Proofs.YtmjbmbmnnephjaaGreatDoor
