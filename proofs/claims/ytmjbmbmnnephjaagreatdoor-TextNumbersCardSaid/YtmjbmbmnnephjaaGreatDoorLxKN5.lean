/- What comes of the points of a function: printed by the tool. -/
import Derived.Test.YtmjbmbmnnephjaaGreatDoorLxKN3
namespace Go.Proofs.YtmjbmbmnnephjaaGreatDoor
open Go Go.Ev Go.Proofs
set_option maxRecDepth 8000
set_option linter.unusedVariables false
theorem f53_eq (f : Nat) (x0 : Nat) (x1_0 : Int) (x1_1 : List Value) (x1_2 : List Value) (x1_3 : List Value) : callF En (runP En (f + 1)) 53 [(Value.pointer (Option.some (Addr.mk x0 0 Option.none))), (Value.agg ⟨((Value.int IntKind.i64 x1_0) :: ((lstV x1_1) :: ((lstV x1_2) :: ((lstV x1_3) :: []))))⟩)] =
  (gd Bool.true
    (callP (fun v316 =>
      (cnd
        (Prog.call (callF En (runP En f) 54 [(Value.pointer (Option.some (Addr.mk x0 0 Option.none)))]) fun v317 =>
          (cnd
            (cnd
              (Prog.ret (Value.tuple ⟨[]⟩))
              (callP (fun v318 =>
                (cnd
                  (Prog.call (callF En (runP En f) 103 [(Value.agg ⟨((Value.int IntKind.i64 (intOf (at_ (aggOf v318) 0))) :: ((lstV (elems (at_ (aggOf v318) 1))) :: ((lstV (elems (at_ (aggOf v318) 2))) :: ((lstV (elems (at_ (aggOf v318) 3))) :: []))))⟩)]) fun v319 =>
                    (cnd
                      (callP (fun v320 =>
                        (cnd
                          (Prog.call (callF En (runP En f) 104 [(Value.agg ⟨((Value.int IntKind.i64 (intOf (at_ (aggOf v320) 0))) :: ((lstV (elems (at_ (aggOf v320) 1))) :: ((lstV (elems (at_ (aggOf v320) 2))) :: ((lstV (elems (at_ (aggOf v320) 3))) :: []))))⟩)]) fun v321 =>
                            (cnd
                              (cnd
                                (callP (fun v322 =>
                                  (cnd
                                    (Prog.call (callF En (runP En f) 105 [(Value.pointer (Option.some (Addr.mk x0 0 Option.none))), (Value.agg ⟨((Value.int IntKind.i64 (intOf (at_ (aggOf v322) 0))) :: ((lstV (elems (at_ (aggOf v322) 1))) :: ((lstV (elems (at_ (aggOf v322) 2))) :: ((lstV (elems (at_ (aggOf v322) 3))) :: []))))⟩)]) fun v323 =>
                                      (cnd
                                        (Prog.ret (Value.tuple ⟨[]⟩))
                                        Prog.fail
                                        ((isTupV v323) && (okNs [] (tupOf v323)))))
                                    Prog.fail
                                    ((isAggV v322) && (okKs ((Kd.int IntKind.i64) :: (Kd.lst :: (Kd.lst :: (Kd.lst :: [])))) (aggOf v322)))))
                                  (loadT En 32 (blkOf v316) (offOf v316)))
                                (callP (fun v324 =>
                                  (cnd
                                    (cnd
                                      (callP (fun v325 =>
                                        (cnd
                                          (cnd
                                            (cnd
                                              (callP (fun v326 =>
                                                (cnd
                                                  (callP (fun v327 =>
                                                    (cnd
                                                      (cnd
                                                        (cnd
                                                          (cnd
                                                            (cnd
                                                              (Prog.call (callF En (runP En f) 78 [(Value.pointer (Option.some (Addr.mk x0 0 Option.none))), (Value.string (mkStr ((40 : UInt8) :: ((41 : UInt8) :: (List.take ((Int.toNat (IntKind.wrap IntKind.i64 ((intOf v327) + (1 : Int)))) - (Int.toNat (intOf v326))) (List.drop (Int.toNat (intOf v326)) ((32 : UInt8) :: ((98 : UInt8) :: ((105 : UInt8) :: ((115 : UInt8) :: ((116 : UInt8) :: ((100 : UInt8) :: []))))))))))))]) fun v328 =>
                                                                (cnd
                                                                  (Prog.ret (Value.tuple ⟨[]⟩))
                                                                  Prog.fail
                                                                  ((isTupV v328) && (okNs ((Nm.one (Kd.int IntKind.i64)) :: ((Nm.one Kd.raw) :: [])) (tupOf v328)))))
                                                              Prog.fail
                                                              (Nat.ble (2 + (List.length (List.take ((Int.toNat (IntKind.wrap IntKind.i64 ((intOf v327) + (1 : Int)))) - (Int.toNat (intOf v326))) (List.drop (Int.toNat (intOf v326)) ((32 : UInt8) :: ((98 : UInt8) :: ((105 : UInt8) :: ((115 : UInt8) :: ((116 : UInt8) :: ((100 : UInt8) :: [])))))))))) 9223372036854775807))
                                                            Prog.fail
                                                            ((Nat.ble (Int.toNat (intOf v326)) (Int.toNat (IntKind.wrap IntKind.i64 ((intOf v327) + (1 : Int))))) && (Nat.ble (Int.toNat (IntKind.wrap IntKind.i64 ((intOf v327) + (1 : Int)))) 6)))
                                                          Prog.fail
                                                          (decide ((0 : Int) ≤ (IntKind.wrap IntKind.i64 ((intOf v327) + (1 : Int))))))
                                                        Prog.fail
                                                        (decide ((0 : Int) ≤ (intOf v326))))
                                                      Prog.fail
                                                      (okK (Kd.int IntKind.i64) v327)))
                                                    (loadT En 3 (blkOf v316) ((offOf v316) + 0)))
                                                  Prog.fail
                                                  (okK (Kd.int IntKind.i64) v326)))
                                                (loadT En 3 (blkOf v316) ((offOf v316) + 0)))
                                              (callP (fun v329 =>
                                                (cnd
                                                  (cnd
                                                    (callP (fun v330 =>
                                                      (cnd
                                                        (cnd
                                                          (cnd
                                                            (callP (fun v331 =>
                                                              (cnd
                                                                (Prog.call (callF En (runP En f) 106 [(Value.agg ⟨((Value.int IntKind.i64 (intOf (at_ (aggOf v331) 0))) :: ((lstV (elems (at_ (aggOf v331) 1))) :: ((lstV (elems (at_ (aggOf v331) 2))) :: ((lstV (elems (at_ (aggOf v331) 3))) :: []))))⟩), (Value.int IntKind.i64 (0 : Int))]) fun v332 =>
                                                                  (cnd
                                                                    (callP (fun v334 =>
                                                                      (cnd
                                                                        (callP (fun v335 =>
                                                                          (Prog.call (callF En (runP En f) 78 [(Value.pointer (Option.some (Addr.mk x0 0 Option.none))), (Value.string (mkStr [44]))]) fun v336 =>
                                                                            (cnd
                                                                              (callP (fun v337 =>
                                                                                (cnd
                                                                                  (Prog.call (callF En (runP En f) 53 [(Value.pointer (Option.some (Addr.mk x0 0 Option.none))), (Value.agg ⟨((Value.int IntKind.i64 (intOf (at_ (aggOf v337) 0))) :: ((lstV (elems (at_ (aggOf v337) 1))) :: ((lstV (elems (at_ (aggOf v337) 2))) :: ((lstV (elems (at_ (aggOf v337) 3))) :: []))))⟩)]) fun v338 =>
                                                                                    (cnd
                                                                                      (Prog.ret (Value.tuple ⟨[]⟩))
                                                                                      Prog.fail
                                                                                      ((isTupV v338) && (okNs [] (tupOf v338)))))
                                                                                  Prog.fail
                                                                                  ((isAggV v337) && (okKs ((Kd.int IntKind.i64) :: (Kd.lst :: (Kd.lst :: (Kd.lst :: [])))) (aggOf v337)))))
                                                                                (loadT En 32 (blkOf v334) (offOf v334)))
                                                                              Prog.fail
                                                                              ((isTupV v336) && (okNs ((Nm.one (Kd.int IntKind.i64)) :: ((Nm.one Kd.raw) :: [])) (tupOf v336))))))
                                                                          (storeT En 32 (blkOf v334) (offOf v334) (Value.agg ⟨((Value.int IntKind.i64 (intOf (at_ (aggOf (at_ (tupOf v332) 0)) 0))) :: ((lstV (elems (at_ (aggOf (at_ (tupOf v332) 0)) 1))) :: ((lstV (elems (at_ (aggOf (at_ (tupOf v332) 0)) 2))) :: ((lstV (elems (at_ (aggOf (at_ (tupOf v332) 0)) 3))) :: []))))⟩)))
                                                                        Prog.fail
                                                                        (isPt v334)))
                                                                      (Prog.newH (Hdr.mk 4 32 Bool.false Bool.true Bool.true 0 Bool.false Bool.false []) ((Value.int IntKind.i64 (0 : Int)) :: ((Value.slice Option.none 0 0) :: ((Value.slice Option.none 0 0) :: ((Value.slice Option.none 0 0) :: [])))) (fun z333 => (Prog.ret (itP z333)))))
                                                                    Prog.fail
                                                                    ((isTupV v332) && (okNs ((Nm.agg ((Kd.int IntKind.i64) :: (Kd.lst :: (Kd.lst :: (Kd.lst :: []))))) :: ((Nm.one (Kd.int IntKind.i64)) :: [])) (tupOf v332)))))
                                                                Prog.fail
                                                                ((isAggV v331) && (okKs ((Kd.int IntKind.i64) :: (Kd.lst :: (Kd.lst :: (Kd.lst :: [])))) (aggOf v331)))))
                                                              (loadT En 32 (blkOf v316) (offOf v316)))
                                                            (callP (fun v339 =>
                                                              (cnd
                                                                (cnd
                                                                  (callP (fun v340 =>
                                                                    (cnd
                                                                      (cnd
                                                                        (callP (fun v341 =>
                                                                          (cnd
                                                                            (Prog.call (callF En (runP En f) 107 [(Value.pointer (Option.some (Addr.mk x0 0 Option.none))), (Value.agg ⟨((Value.int IntKind.i64 (intOf (at_ (aggOf v341) 0))) :: ((lstV (elems (at_ (aggOf v341) 1))) :: ((lstV (elems (at_ (aggOf v341) 2))) :: ((lstV (elems (at_ (aggOf v341) 3))) :: []))))⟩)]) fun v342 =>
                                                                              (cnd
                                                                                (Prog.ret (Value.tuple ⟨[]⟩))
                                                                                Prog.fail
                                                                                ((isTupV v342) && (okNs [] (tupOf v342)))))
                                                                            Prog.fail
                                                                            ((isAggV v341) && (okKs ((Kd.int IntKind.i64) :: (Kd.lst :: (Kd.lst :: (Kd.lst :: [])))) (aggOf v341)))))
                                                                          (loadT En 32 (blkOf v316) (offOf v316)))
                                                                        (callP (fun v343 =>
                                                                          (cnd
                                                                            (cnd
                                                                              (callP (fun v344 =>
                                                                                (cnd
                                                                                  (Prog.call (callF En (runP En f) 108 [(Value.pointer (Option.some (Addr.mk x0 0 Option.none))), (Value.string (mkStr [40])), (Value.string (mkStr [59])), (Value.string (mkStr [41])), (lstV (elems v344))]) fun v345 =>
                                                                                    (cnd
                                                                                      (Prog.ret (Value.tuple ⟨[]⟩))
                                                                                      Prog.fail
                                                                                      ((isTupV v345) && (okNs [] (tupOf v345)))))
                                                                                  Prog.fail
                                                                                  (isLst v344)))
                                                                                (loadT En 30 (blkOf v316) ((offOf v316) + 3)))
                                                                              (callP (fun v346 =>
                                                                                (cnd
                                                                                  (cnd
                                                                                    (callP (fun v347 =>
                                                                                      (cnd
                                                                                        (Prog.call (callF En (runP En f) 108 [(Value.pointer (Option.some (Addr.mk x0 0 Option.none))), (Value.string (mkStr [40])), (Value.string (mkStr [33])), (Value.string (mkStr [41])), (lstV (elems v347))]) fun v348 =>
                                                                                          (cnd
                                                                                            (Prog.ret (Value.tuple ⟨[]⟩))
                                                                                            Prog.fail
                                                                                            ((isTupV v348) && (okNs [] (tupOf v348)))))
                                                                                        Prog.fail
                                                                                        (isLst v347)))
                                                                                      (loadT En 30 (blkOf v316) ((offOf v316) + 3)))
                                                                                    (callP (fun v349 =>
                                                                                      (cnd
                                                                                        (cnd
                                                                                          (callP (fun v350 =>
                                                                                            (cnd
                                                                                              (Prog.call (callF En (runP En f) 109 [(Value.pointer (Option.some (Addr.mk x0 0 Option.none))), (Value.agg ⟨((Value.int IntKind.i64 (intOf (at_ (aggOf v350) 0))) :: ((lstV (elems (at_ (aggOf v350) 1))) :: ((lstV (elems (at_ (aggOf v350) 2))) :: ((lstV (elems (at_ (aggOf v350) 3))) :: []))))⟩)]) fun v351 =>
                                                                                                (cnd
                                                                                                  (Prog.ret (Value.tuple ⟨[]⟩))
                                                                                                  Prog.fail
                                                                                                  ((isTupV v351) && (okNs [] (tupOf v351)))))
                                                                                              Prog.fail
                                                                                              ((isAggV v350) && (okKs ((Kd.int IntKind.i64) :: (Kd.lst :: (Kd.lst :: (Kd.lst :: [])))) (aggOf v350)))))
                                                                                            (loadT En 32 (blkOf v316) (offOf v316)))
                                                                                          (callP (fun v352 =>
                                                                                            (cnd
                                                                                              (cnd
                                                                                                (callP (fun v353 =>
                                                                                                  (cnd
                                                                                                    (cnd
                                                                                                      (cnd
                                                                                                        (cnd
                                                                                                          (Prog.call (callF En (runP En f) 78 [(Value.pointer (Option.some (Addr.mk x0 0 Option.none))), (Value.string (strOf (List.headD (Array.toList (Value.cells (at_ (elems v353) 0))) (Value.tuple ⟨[]⟩))))]) fun v354 =>
                                                                                                            (cnd
                                                                                                              (Prog.ret (Value.tuple ⟨[]⟩))
                                                                                                              Prog.fail
                                                                                                              ((isTupV v354) && (okNs ((Nm.one (Kd.int IntKind.i64)) :: ((Nm.one Kd.raw) :: [])) (tupOf v354)))))
                                                                                                          Prog.fail
                                                                                                          (okK Kd.str (List.headD (Array.toList (Value.cells (at_ (elems v353) 0))) (Value.tuple ⟨[]⟩))))
                                                                                                        Prog.fail
                                                                                                        (Nat.ble 1 (List.length (Array.toList (Value.cells (at_ (elems v353) 0))))))
                                                                                                      Prog.fail
                                                                                                      (((Nat.ble 1 (List.length (elems v353))) && Bool.true) && (hdOk 1 (elems v353))))
                                                                                                    Prog.fail
                                                                                                    (isLst v353)))
                                                                                                  (loadT En 29 (blkOf v316) ((offOf v316) + 2)))
                                                                                                (Prog.call (callF En (runP En f) 78 [(Value.pointer (Option.some (Addr.mk x0 0 Option.none))), (Value.string (mkStr [58, 58]))]) fun v355 =>
                                                                                                  (cnd
                                                                                                    (Prog.ret (Value.tuple ⟨[]⟩))
                                                                                                    Prog.fail
                                                                                                    ((isTupV v355) && (okNs ((Nm.one (Kd.int IntKind.i64)) :: ((Nm.one Kd.raw) :: [])) (tupOf v355)))))
                                                                                                (decide ((intOf v352) = (100 : Int))))
                                                                                              Prog.fail
                                                                                              (okK (Kd.int IntKind.i64) v352)))
                                                                                            (loadT En 3 (blkOf v316) ((offOf v316) + 0)))
                                                                                          (decide ((intOf v349) = (98 : Int))))
                                                                                        Prog.fail
                                                                                        (okK (Kd.int IntKind.i64) v349)))
                                                                                      (loadT En 3 (blkOf v316) ((offOf v316) + 0)))
                                                                                    (decide ((intOf v346) = (99 : Int))))
                                                                                  Prog.fail
                                                                                  (okK (Kd.int IntKind.i64) v346)))
                                                                                (loadT En 3 (blkOf v316) ((offOf v316) + 0)))
                                                                              (decide ((intOf v343) = (0 : Int))))
                                                                            Prog.fail
                                                                            (okK (Kd.int IntKind.i64) v343)))
                                                                          (loadT En 3 (blkOf v316) ((offOf v316) + 0)))
                                                                        (decide ((intOf v340) ≤ (5 : Int))))
                                                                      Prog.fail
                                                                      (okK (Kd.int IntKind.i64) v340)))
                                                                    (loadT En 3 (blkOf v316) ((offOf v316) + 0)))
                                                                  (callP (fun v356 =>
                                                                    (cnd
                                                                      (cnd
                                                                        (callP (fun v357 =>
                                                                          (cnd
                                                                            (Prog.call (callF En (runP En f) 108 [(Value.pointer (Option.some (Addr.mk x0 0 Option.none))), (Value.string (mkStr [40])), (Value.string (mkStr [59])), (Value.string (mkStr [41])), (lstV (elems v357))]) fun v358 =>
                                                                              (cnd
                                                                                (Prog.ret (Value.tuple ⟨[]⟩))
                                                                                Prog.fail
                                                                                ((isTupV v358) && (okNs [] (tupOf v358)))))
                                                                            Prog.fail
                                                                            (isLst v357)))
                                                                          (loadT En 30 (blkOf v316) ((offOf v316) + 3)))
                                                                        (callP (fun v359 =>
                                                                          (cnd
                                                                            (cnd
                                                                              (callP (fun v360 =>
                                                                                (cnd
                                                                                  (Prog.call (callF En (runP En f) 108 [(Value.pointer (Option.some (Addr.mk x0 0 Option.none))), (Value.string (mkStr [40])), (Value.string (mkStr [33])), (Value.string (mkStr [41])), (lstV (elems v360))]) fun v361 =>
                                                                                    (cnd
                                                                                      (Prog.ret (Value.tuple ⟨[]⟩))
                                                                                      Prog.fail
                                                                                      ((isTupV v361) && (okNs [] (tupOf v361)))))
                                                                                  Prog.fail
                                                                                  (isLst v360)))
                                                                                (loadT En 30 (blkOf v316) ((offOf v316) + 3)))
                                                                              (callP (fun v362 =>
                                                                                (cnd
                                                                                  (cnd
                                                                                    (callP (fun v363 =>
                                                                                      (cnd
                                                                                        (Prog.call (callF En (runP En f) 109 [(Value.pointer (Option.some (Addr.mk x0 0 Option.none))), (Value.agg ⟨((Value.int IntKind.i64 (intOf (at_ (aggOf v363) 0))) :: ((lstV (elems (at_ (aggOf v363) 1))) :: ((lstV (elems (at_ (aggOf v363) 2))) :: ((lstV (elems (at_ (aggOf v363) 3))) :: []))))⟩)]) fun v364 =>
                                                                                          (cnd
                                                                                            (Prog.ret (Value.tuple ⟨[]⟩))
                                                                                            Prog.fail
                                                                                            ((isTupV v364) && (okNs [] (tupOf v364)))))
                                                                                        Prog.fail
                                                                                        ((isAggV v363) && (okKs ((Kd.int IntKind.i64) :: (Kd.lst :: (Kd.lst :: (Kd.lst :: [])))) (aggOf v363)))))
                                                                                      (loadT En 32 (blkOf v316) (offOf v316)))
                                                                                    (callP (fun v365 =>
                                                                                      (cnd
                                                                                        (cnd
                                                                                          (callP (fun v366 =>
                                                                                            (cnd
                                                                                              (cnd
                                                                                                (cnd
                                                                                                  (cnd
                                                                                                    (Prog.call (callF En (runP En f) 78 [(Value.pointer (Option.some (Addr.mk x0 0 Option.none))), (Value.string (strOf (List.headD (Array.toList (Value.cells (at_ (elems v366) 0))) (Value.tuple ⟨[]⟩))))]) fun v367 =>
                                                                                                      (cnd
                                                                                                        (Prog.ret (Value.tuple ⟨[]⟩))
                                                                                                        Prog.fail
                                                                                                        ((isTupV v367) && (okNs ((Nm.one (Kd.int IntKind.i64)) :: ((Nm.one Kd.raw) :: [])) (tupOf v367)))))
                                                                                                    Prog.fail
                                                                                                    (okK Kd.str (List.headD (Array.toList (Value.cells (at_ (elems v366) 0))) (Value.tuple ⟨[]⟩))))
                                                                                                  Prog.fail
                                                                                                  (Nat.ble 1 (List.length (Array.toList (Value.cells (at_ (elems v366) 0))))))
                                                                                                Prog.fail
                                                                                                (((Nat.ble 1 (List.length (elems v366))) && Bool.true) && (hdOk 1 (elems v366))))
                                                                                              Prog.fail
                                                                                              (isLst v366)))
                                                                                            (loadT En 29 (blkOf v316) ((offOf v316) + 2)))
                                                                                          (Prog.call (callF En (runP En f) 78 [(Value.pointer (Option.some (Addr.mk x0 0 Option.none))), (Value.string (mkStr [58, 58]))]) fun v368 =>
                                                                                            (cnd
                                                                                              (Prog.ret (Value.tuple ⟨[]⟩))
                                                                                              Prog.fail
                                                                                              ((isTupV v368) && (okNs ((Nm.one (Kd.int IntKind.i64)) :: ((Nm.one Kd.raw) :: [])) (tupOf v368)))))
                                                                                          (decide ((intOf v365) = (100 : Int))))
                                                                                        Prog.fail
                                                                                        (okK (Kd.int IntKind.i64) v365)))
                                                                                      (loadT En 3 (blkOf v316) ((offOf v316) + 0)))
                                                                                    (decide ((intOf v362) = (98 : Int))))
                                                                                  Prog.fail
                                                                                  (okK (Kd.int IntKind.i64) v362)))
                                                                                (loadT En 3 (blkOf v316) ((offOf v316) + 0)))
                                                                              (decide ((intOf v359) = (99 : Int))))
                                                                            Prog.fail
                                                                            (okK (Kd.int IntKind.i64) v359)))
                                                                          (loadT En 3 (blkOf v316) ((offOf v316) + 0)))
                                                                        (decide ((intOf v356) = (0 : Int))))
                                                                      Prog.fail
                                                                      (okK (Kd.int IntKind.i64) v356)))
                                                                    (loadT En 3 (blkOf v316) ((offOf v316) + 0)))
                                                                  (decide ((intOf v339) ≥ (1 : Int))))
                                                                Prog.fail
                                                                (okK (Kd.int IntKind.i64) v339)))
                                                              (loadT En 3 (blkOf v316) ((offOf v316) + 0)))
                                                            (decide ((intOf v319) = (1 : Int))))
                                                          (callP (fun v369 =>
                                                            (cnd
                                                              (cnd
                                                                (callP (fun v370 =>
                                                                  (cnd
                                                                    (cnd
                                                                      (callP (fun v371 =>
                                                                        (cnd
                                                                          (Prog.call (callF En (runP En f) 107 [(Value.pointer (Option.some (Addr.mk x0 0 Option.none))), (Value.agg ⟨((Value.int IntKind.i64 (intOf (at_ (aggOf v371) 0))) :: ((lstV (elems (at_ (aggOf v371) 1))) :: ((lstV (elems (at_ (aggOf v371) 2))) :: ((lstV (elems (at_ (aggOf v371) 3))) :: []))))⟩)]) fun v372 =>
                                                                            (cnd
                                                                              (Prog.ret (Value.tuple ⟨[]⟩))
                                                                              Prog.fail
                                                                              ((isTupV v372) && (okNs [] (tupOf v372)))))
                                                                          Prog.fail
                                                                          ((isAggV v371) && (okKs ((Kd.int IntKind.i64) :: (Kd.lst :: (Kd.lst :: (Kd.lst :: [])))) (aggOf v371)))))
                                                                        (loadT En 32 (blkOf v316) (offOf v316)))
                                                                      (callP (fun v373 =>
                                                                        (cnd
                                                                          (cnd
                                                                            (callP (fun v374 =>
                                                                              (cnd
                                                                                (Prog.call (callF En (runP En f) 108 [(Value.pointer (Option.some (Addr.mk x0 0 Option.none))), (Value.string (mkStr [40])), (Value.string (mkStr [59])), (Value.string (mkStr [41])), (lstV (elems v374))]) fun v375 =>
                                                                                  (cnd
                                                                                    (Prog.ret (Value.tuple ⟨[]⟩))
                                                                                    Prog.fail
                                                                                    ((isTupV v375) && (okNs [] (tupOf v375)))))
                                                                                Prog.fail
                                                                                (isLst v374)))
                                                                              (loadT En 30 (blkOf v316) ((offOf v316) + 3)))
                                                                            (callP (fun v376 =>
                                                                              (cnd
                                                                                (cnd
                                                                                  (callP (fun v377 =>
                                                                                    (cnd
                                                                                      (Prog.call (callF En (runP En f) 108 [(Value.pointer (Option.some (Addr.mk x0 0 Option.none))), (Value.string (mkStr [40])), (Value.string (mkStr [33])), (Value.string (mkStr [41])), (lstV (elems v377))]) fun v378 =>
                                                                                        (cnd
                                                                                          (Prog.ret (Value.tuple ⟨[]⟩))
                                                                                          Prog.fail
                                                                                          ((isTupV v378) && (okNs [] (tupOf v378)))))
                                                                                      Prog.fail
                                                                                      (isLst v377)))
                                                                                    (loadT En 30 (blkOf v316) ((offOf v316) + 3)))
                                                                                  (callP (fun v379 =>
                                                                                    (cnd
                                                                                      (cnd
                                                                                        (callP (fun v380 =>
                                                                                          (cnd
                                                                                            (Prog.call (callF En (runP En f) 109 [(Value.pointer (Option.some (Addr.mk x0 0 Option.none))), (Value.agg ⟨((Value.int IntKind.i64 (intOf (at_ (aggOf v380) 0))) :: ((lstV (elems (at_ (aggOf v380) 1))) :: ((lstV (elems (at_ (aggOf v380) 2))) :: ((lstV (elems (at_ (aggOf v380) 3))) :: []))))⟩)]) fun v381 =>
                                                                                              (cnd
                                                                                                (Prog.ret (Value.tuple ⟨[]⟩))
                                                                                                Prog.fail
                                                                                                ((isTupV v381) && (okNs [] (tupOf v381)))))
                                                                                            Prog.fail
                                                                                            ((isAggV v380) && (okKs ((Kd.int IntKind.i64) :: (Kd.lst :: (Kd.lst :: (Kd.lst :: [])))) (aggOf v380)))))
                                                                                          (loadT En 32 (blkOf v316) (offOf v316)))
                                                                                        (callP (fun v382 =>
                                                                                          (cnd
                                                                                            (cnd
                                                                                              (callP (fun v383 =>
                                                                                                (cnd
                                                                                                  (cnd
                                                                                                    (cnd
                                                                                                      (cnd
                                                                                                        (Prog.call (callF En (runP En f) 78 [(Value.pointer (Option.some (Addr.mk x0 0 Option.none))), (Value.string (strOf (List.headD (Array.toList (Value.cells (at_ (elems v383) 0))) (Value.tuple ⟨[]⟩))))]) fun v384 =>
                                                                                                          (cnd
                                                                                                            (Prog.ret (Value.tuple ⟨[]⟩))
                                                                                                            Prog.fail
                                                                                                            ((isTupV v384) && (okNs ((Nm.one (Kd.int IntKind.i64)) :: ((Nm.one Kd.raw) :: [])) (tupOf v384)))))
                                                                                                        Prog.fail
                                                                                                        (okK Kd.str (List.headD (Array.toList (Value.cells (at_ (elems v383) 0))) (Value.tuple ⟨[]⟩))))
                                                                                                      Prog.fail
                                                                                                      (Nat.ble 1 (List.length (Array.toList (Value.cells (at_ (elems v383) 0))))))
                                                                                                    Prog.fail
                                                                                                    (((Nat.ble 1 (List.length (elems v383))) && Bool.true) && (hdOk 1 (elems v383))))
                                                                                                  Prog.fail
                                                                                                  (isLst v383)))
                                                                                                (loadT En 29 (blkOf v316) ((offOf v316) + 2)))
                                                                                              (Prog.call (callF En (runP En f) 78 [(Value.pointer (Option.some (Addr.mk x0 0 Option.none))), (Value.string (mkStr [58, 58]))]) fun v385 =>
                                                                                                (cnd
                                                                                                  (Prog.ret (Value.tuple ⟨[]⟩))
                                                                                                  Prog.fail
                                                                                                  ((isTupV v385) && (okNs ((Nm.one (Kd.int IntKind.i64)) :: ((Nm.one Kd.raw) :: [])) (tupOf v385)))))
                                                                                              (decide ((intOf v382) = (100 : Int))))
                                                                                            Prog.fail
                                                                                            (okK (Kd.int IntKind.i64) v382)))
                                                                                          (loadT En 3 (blkOf v316) ((offOf v316) + 0)))
                                                                                        (decide ((intOf v379) = (98 : Int))))
                                                                                      Prog.fail
                                                                                      (okK (Kd.int IntKind.i64) v379)))
                                                                                    (loadT En 3 (blkOf v316) ((offOf v316) + 0)))
                                                                                  (decide ((intOf v376) = (99 : Int))))
                                                                                Prog.fail
                                                                                (okK (Kd.int IntKind.i64) v376)))
                                                                              (loadT En 3 (blkOf v316) ((offOf v316) + 0)))
                                                                            (decide ((intOf v373) = (0 : Int))))
                                                                          Prog.fail
                                                                          (okK (Kd.int IntKind.i64) v373)))
                                                                        (loadT En 3 (blkOf v316) ((offOf v316) + 0)))
                                                                      (decide ((intOf v370) ≤ (5 : Int))))
                                                                    Prog.fail
                                                                    (okK (Kd.int IntKind.i64) v370)))
                                                                  (loadT En 3 (blkOf v316) ((offOf v316) + 0)))
                                                                (callP (fun v386 =>
                                                                  (cnd
                                                                    (cnd
                                                                      (callP (fun v387 =>
                                                                        (cnd
                                                                          (Prog.call (callF En (runP En f) 108 [(Value.pointer (Option.some (Addr.mk x0 0 Option.none))), (Value.string (mkStr [40])), (Value.string (mkStr [59])), (Value.string (mkStr [41])), (lstV (elems v387))]) fun v388 =>
                                                                            (cnd
                                                                              (Prog.ret (Value.tuple ⟨[]⟩))
                                                                              Prog.fail
                                                                              ((isTupV v388) && (okNs [] (tupOf v388)))))
                                                                          Prog.fail
                                                                          (isLst v387)))
                                                                        (loadT En 30 (blkOf v316) ((offOf v316) + 3)))
                                                                      (callP (fun v389 =>
                                                                        (cnd
                                                                          (cnd
                                                                            (callP (fun v390 =>
                                                                              (cnd
                                                                                (Prog.call (callF En (runP En f) 108 [(Value.pointer (Option.some (Addr.mk x0 0 Option.none))), (Value.string (mkStr [40])), (Value.string (mkStr [33])), (Value.string (mkStr [41])), (lstV (elems v390))]) fun v391 =>
                                                                                  (cnd
                                                                                    (Prog.ret (Value.tuple ⟨[]⟩))
                                                                                    Prog.fail
                                                                                    ((isTupV v391) && (okNs [] (tupOf v391)))))
                                                                                Prog.fail
                                                                                (isLst v390)))
                                                                              (loadT En 30 (blkOf v316) ((offOf v316) + 3)))
                                                                            (callP (fun v392 =>
                                                                              (cnd
                                                                                (cnd
                                                                                  (callP (fun v393 =>
                                                                                    (cnd
                                                                                      (Prog.call (callF En (runP En f) 109 [(Value.pointer (Option.some (Addr.mk x0 0 Option.none))), (Value.agg ⟨((Value.int IntKind.i64 (intOf (at_ (aggOf v393) 0))) :: ((lstV (elems (at_ (aggOf v393) 1))) :: ((lstV (elems (at_ (aggOf v393) 2))) :: ((lstV (elems (at_ (aggOf v393) 3))) :: []))))⟩)]) fun v394 =>
                                                                                        (cnd
                                                                                          (Prog.ret (Value.tuple ⟨[]⟩))
                                                                                          Prog.fail
                                                                                          ((isTupV v394) && (okNs [] (tupOf v394)))))
                                                                                      Prog.fail
                                                                                      ((isAggV v393) && (okKs ((Kd.int IntKind.i64) :: (Kd.lst :: (Kd.lst :: (Kd.lst :: [])))) (aggOf v393)))))
                                                                                    (loadT En 32 (blkOf v316) (offOf v316)))
                                                                                  (callP (fun v395 =>
                                                                                    (cnd
                                                                                      (cnd
                                                                                        (callP (fun v396 =>
                                                                                          (cnd
                                                                                            (cnd
                                                                                              (cnd
                                                                                                (cnd
                                                                                                  (Prog.call (callF En (runP En f) 78 [(Value.pointer (Option.some (Addr.mk x0 0 Option.none))), (Value.string (strOf (List.headD (Array.toList (Value.cells (at_ (elems v396) 0))) (Value.tuple ⟨[]⟩))))]) fun v397 =>
                                                                                                    (cnd
                                                                                                      (Prog.ret (Value.tuple ⟨[]⟩))
                                                                                                      Prog.fail
                                                                                                      ((isTupV v397) && (okNs ((Nm.one (Kd.int IntKind.i64)) :: ((Nm.one Kd.raw) :: [])) (tupOf v397)))))
                                                                                                  Prog.fail
                                                                                                  (okK Kd.str (List.headD (Array.toList (Value.cells (at_ (elems v396) 0))) (Value.tuple ⟨[]⟩))))
                                                                                                Prog.fail
                                                                                                (Nat.ble 1 (List.length (Array.toList (Value.cells (at_ (elems v396) 0))))))
                                                                                              Prog.fail
                                                                                              (((Nat.ble 1 (List.length (elems v396))) && Bool.true) && (hdOk 1 (elems v396))))
                                                                                            Prog.fail
                                                                                            (isLst v396)))
                                                                                          (loadT En 29 (blkOf v316) ((offOf v316) + 2)))
                                                                                        (Prog.call (callF En (runP En f) 78 [(Value.pointer (Option.some (Addr.mk x0 0 Option.none))), (Value.string (mkStr [58, 58]))]) fun v398 =>
                                                                                          (cnd
                                                                                            (Prog.ret (Value.tuple ⟨[]⟩))
                                                                                            Prog.fail
                                                                                            ((isTupV v398) && (okNs ((Nm.one (Kd.int IntKind.i64)) :: ((Nm.one Kd.raw) :: [])) (tupOf v398)))))
                                                                                        (decide ((intOf v395) = (100 : Int))))
                                                                                      Prog.fail
                                                                                      (okK (Kd.int IntKind.i64) v395)))
                                                                                    (loadT En 3 (blkOf v316) ((offOf v316) + 0)))
                                                                                  (decide ((intOf v392) = (98 : Int))))
                                                                                Prog.fail
                                                                                (okK (Kd.int IntKind.i64) v392)))
                                                                              (loadT En 3 (blkOf v316) ((offOf v316) + 0)))
                                                                            (decide ((intOf v389) = (99 : Int))))
                                                                          Prog.fail
                                                                          (okK (Kd.int IntKind.i64) v389)))
                                                                        (loadT En 3 (blkOf v316) ((offOf v316) + 0)))
                                                                      (decide ((intOf v386) = (0 : Int))))
                                                                    Prog.fail
                                                                    (okK (Kd.int IntKind.i64) v386)))
                                                                  (loadT En 3 (blkOf v316) ((offOf v316) + 0)))
                                                                (decide ((intOf v369) ≥ (1 : Int))))
                                                              Prog.fail
                                                              (okK (Kd.int IntKind.i64) v369)))
                                                            (loadT En 3 (blkOf v316) ((offOf v316) + 0)))
                                                          (decide ((intOf v330) ≤ (5 : Int))))
                                                        Prog.fail
                                                        (okK (Kd.int IntKind.i64) v330)))
                                                      (loadT En 3 (blkOf v316) ((offOf v316) + 0)))
                                                    (callP (fun v399 =>
                                                      (cnd
                                                        (cnd
                                                          (callP (fun v400 =>
                                                            (cnd
                                                              (cnd
                                                                (callP (fun v401 =>
                                                                  (cnd
                                                                    (Prog.call (callF En (runP En f) 107 [(Value.pointer (Option.some (Addr.mk x0 0 Option.none))), (Value.agg ⟨((Value.int IntKind.i64 (intOf (at_ (aggOf v401) 0))) :: ((lstV (elems (at_ (aggOf v401) 1))) :: ((lstV (elems (at_ (aggOf v401) 2))) :: ((lstV (elems (at_ (aggOf v401) 3))) :: []))))⟩)]) fun v402 =>
                                                                      (cnd
                                                                        (Prog.ret (Value.tuple ⟨[]⟩))
                                                                        Prog.fail
                                                                        ((isTupV v402) && (okNs [] (tupOf v402)))))
                                                                    Prog.fail
                                                                    ((isAggV v401) && (okKs ((Kd.int IntKind.i64) :: (Kd.lst :: (Kd.lst :: (Kd.lst :: [])))) (aggOf v401)))))
                                                                  (loadT En 32 (blkOf v316) (offOf v316)))
                                                                (callP (fun v403 =>
                                                                  (cnd
                                                                    (cnd
                                                                      (callP (fun v404 =>
                                                                        (cnd
                                                                          (Prog.call (callF En (runP En f) 108 [(Value.pointer (Option.some (Addr.mk x0 0 Option.none))), (Value.string (mkStr [40])), (Value.string (mkStr [59])), (Value.string (mkStr [41])), (lstV (elems v404))]) fun v405 =>
                                                                            (cnd
                                                                              (Prog.ret (Value.tuple ⟨[]⟩))
                                                                              Prog.fail
                                                                              ((isTupV v405) && (okNs [] (tupOf v405)))))
                                                                          Prog.fail
                                                                          (isLst v404)))
                                                                        (loadT En 30 (blkOf v316) ((offOf v316) + 3)))
                                                                      (callP (fun v406 =>
                                                                        (cnd
                                                                          (cnd
                                                                            (callP (fun v407 =>
                                                                              (cnd
                                                                                (Prog.call (callF En (runP En f) 108 [(Value.pointer (Option.some (Addr.mk x0 0 Option.none))), (Value.string (mkStr [40])), (Value.string (mkStr [33])), (Value.string (mkStr [41])), (lstV (elems v407))]) fun v408 =>
                                                                                  (cnd
                                                                                    (Prog.ret (Value.tuple ⟨[]⟩))
                                                                                    Prog.fail
                                                                                    ((isTupV v408) && (okNs [] (tupOf v408)))))
                                                                                Prog.fail
                                                                                (isLst v407)))
                                                                              (loadT En 30 (blkOf v316) ((offOf v316) + 3)))
                                                                            (callP (fun v409 =>
                                                                              (cnd
                                                                                (cnd
                                                                                  (callP (fun v410 =>
                                                                                    (cnd
                                                                                      (Prog.call (callF En (runP En f) 109 [(Value.pointer (Option.some (Addr.mk x0 0 Option.none))), (Value.agg ⟨((Value.int IntKind.i64 (intOf (at_ (aggOf v410) 0))) :: ((lstV (elems (at_ (aggOf v410) 1))) :: ((lstV (elems (at_ (aggOf v410) 2))) :: ((lstV (elems (at_ (aggOf v410) 3))) :: []))))⟩)]) fun v411 =>
                                                                                        (cnd
                                                                                          (Prog.ret (Value.tuple ⟨[]⟩))
                                                                                          Prog.fail
                                                                                          ((isTupV v411) && (okNs [] (tupOf v411)))))
                                                                                      Prog.fail
                                                                                      ((isAggV v410) && (okKs ((Kd.int IntKind.i64) :: (Kd.lst :: (Kd.lst :: (Kd.lst :: [])))) (aggOf v410)))))
                                                                                    (loadT En 32 (blkOf v316) (offOf v316)))
                                                                                  (callP (fun v412 =>
                                                                                    (cnd
                                                                                      (cnd
                                                                                        (callP (fun v413 =>
                                                                                          (cnd
                                                                                            (cnd
                                                                                              (cnd
                                                                                                (cnd
                                                                                                  (Prog.call (callF En (runP En f) 78 [(Value.pointer (Option.some (Addr.mk x0 0 Option.none))), (Value.string (strOf (List.headD (Array.toList (Value.cells (at_ (elems v413) 0))) (Value.tuple ⟨[]⟩))))]) fun v414 =>
                                                                                                    (cnd
                                                                                                      (Prog.ret (Value.tuple ⟨[]⟩))
                                                                                                      Prog.fail
                                                                                                      ((isTupV v414) && (okNs ((Nm.one (Kd.int IntKind.i64)) :: ((Nm.one Kd.raw) :: [])) (tupOf v414)))))
                                                                                                  Prog.fail
                                                                                                  (okK Kd.str (List.headD (Array.toList (Value.cells (at_ (elems v413) 0))) (Value.tuple ⟨[]⟩))))
                                                                                                Prog.fail
                                                                                                (Nat.ble 1 (List.length (Array.toList (Value.cells (at_ (elems v413) 0))))))
                                                                                              Prog.fail
                                                                                              (((Nat.ble 1 (List.length (elems v413))) && Bool.true) && (hdOk 1 (elems v413))))
                                                                                            Prog.fail
                                                                                            (isLst v413)))
                                                                                          (loadT En 29 (blkOf v316) ((offOf v316) + 2)))
                                                                                        (Prog.call (callF En (runP En f) 78 [(Value.pointer (Option.some (Addr.mk x0 0 Option.none))), (Value.string (mkStr [58, 58]))]) fun v415 =>
                                                                                          (cnd
                                                                                            (Prog.ret (Value.tuple ⟨[]⟩))
                                                                                            Prog.fail
                                                                                            ((isTupV v415) && (okNs ((Nm.one (Kd.int IntKind.i64)) :: ((Nm.one Kd.raw) :: [])) (tupOf v415)))))
                                                                                        (decide ((intOf v412) = (100 : Int))))
                                                                                      Prog.fail
                                                                                      (okK (Kd.int IntKind.i64) v412)))
                                                                                    (loadT En 3 (blkOf v316) ((offOf v316) + 0)))
                                                                                  (decide ((intOf v409) = (98 : Int))))
                                                                                Prog.fail
                                                                                (okK (Kd.int IntKind.i64) v409)))
                                                                              (loadT En 3 (blkOf v316) ((offOf v316) + 0)))
                                                                            (decide ((intOf v406) = (99 : Int))))
                                                                          Prog.fail
                                                                          (okK (Kd.int IntKind.i64) v406)))
                                                                        (loadT En 3 (blkOf v316) ((offOf v316) + 0)))
                                                                      (decide ((intOf v403) = (0 : Int))))
                                                                    Prog.fail
                                                                    (okK (Kd.int IntKind.i64) v403)))
                                                                  (loadT En 3 (blkOf v316) ((offOf v316) + 0)))
                                                                (decide ((intOf v400) ≤ (5 : Int))))
                                                              Prog.fail
                                                              (okK (Kd.int IntKind.i64) v400)))
                                                            (loadT En 3 (blkOf v316) ((offOf v316) + 0)))
                                                          (callP (fun v416 =>
                                                            (cnd
                                                              (cnd
                                                                (callP (fun v417 =>
                                                                  (cnd
                                                                    (Prog.call (callF En (runP En f) 108 [(Value.pointer (Option.some (Addr.mk x0 0 Option.none))), (Value.string (mkStr [40])), (Value.string (mkStr [59])), (Value.string (mkStr [41])), (lstV (elems v417))]) fun v418 =>
                                                                      (cnd
                                                                        (Prog.ret (Value.tuple ⟨[]⟩))
                                                                        Prog.fail
                                                                        ((isTupV v418) && (okNs [] (tupOf v418)))))
                                                                    Prog.fail
                                                                    (isLst v417)))
                                                                  (loadT En 30 (blkOf v316) ((offOf v316) + 3)))
                                                                (callP (fun v419 =>
                                                                  (cnd
                                                                    (cnd
                                                                      (callP (fun v420 =>
                                                                        (cnd
                                                                          (Prog.call (callF En (runP En f) 108 [(Value.pointer (Option.some (Addr.mk x0 0 Option.none))), (Value.string (mkStr [40])), (Value.string (mkStr [33])), (Value.string (mkStr [41])), (lstV (elems v420))]) fun v421 =>
                                                                            (cnd
                                                                              (Prog.ret (Value.tuple ⟨[]⟩))
                                                                              Prog.fail
                                                                              ((isTupV v421) && (okNs [] (tupOf v421)))))
                                                                          Prog.fail
                                                                          (isLst v420)))
                                                                        (loadT En 30 (blkOf v316) ((offOf v316) + 3)))
                                                                      (callP (fun v422 =>
                                                                        (cnd
                                                                          (cnd
                                                                            (callP (fun v423 =>
                                                                              (cnd
                                                                                (Prog.call (callF En (runP En f) 109 [(Value.pointer (Option.some (Addr.mk x0 0 Option.none))), (Value.agg ⟨((Value.int IntKind.i64 (intOf (at_ (aggOf v423) 0))) :: ((lstV (elems (at_ (aggOf v423) 1))) :: ((lstV (elems (at_ (aggOf v423) 2))) :: ((lstV (elems (at_ (aggOf v423) 3))) :: []))))⟩)]) fun v424 =>
                                                                                  (cnd
                                                                                    (Prog.ret (Value.tuple ⟨[]⟩))
                                                                                    Prog.fail
                                                                                    ((isTupV v424) && (okNs [] (tupOf v424)))))
                                                                                Prog.fail
                                                                                ((isAggV v423) && (okKs ((Kd.int IntKind.i64) :: (Kd.lst :: (Kd.lst :: (Kd.lst :: [])))) (aggOf v423)))))
                                                                              (loadT En 32 (blkOf v316) (offOf v316)))
                                                                            (callP (fun v425 =>
                                                                              (cnd
                                                                                (cnd
                                                                                  (callP (fun v426 =>
                                                                                    (cnd
                                                                                      (cnd
                                                                                        (cnd
                                                                                          (cnd
                                                                                            (Prog.call (callF En (runP En f) 78 [(Value.pointer (Option.some (Addr.mk x0 0 Option.none))), (Value.string (strOf (List.headD (Array.toList (Value.cells (at_ (elems v426) 0))) (Value.tuple ⟨[]⟩))))]) fun v427 =>
                                                                                              (cnd
                                                                                                (Prog.ret (Value.tuple ⟨[]⟩))
                                                                                                Prog.fail
                                                                                                ((isTupV v427) && (okNs ((Nm.one (Kd.int IntKind.i64)) :: ((Nm.one Kd.raw) :: [])) (tupOf v427)))))
                                                                                            Prog.fail
                                                                                            (okK Kd.str (List.headD (Array.toList (Value.cells (at_ (elems v426) 0))) (Value.tuple ⟨[]⟩))))
                                                                                          Prog.fail
                                                                                          (Nat.ble 1 (List.length (Array.toList (Value.cells (at_ (elems v426) 0))))))
                                                                                        Prog.fail
                                                                                        (((Nat.ble 1 (List.length (elems v426))) && Bool.true) && (hdOk 1 (elems v426))))
                                                                                      Prog.fail
                                                                                      (isLst v426)))
                                                                                    (loadT En 29 (blkOf v316) ((offOf v316) + 2)))
                                                                                  (Prog.call (callF En (runP En f) 78 [(Value.pointer (Option.some (Addr.mk x0 0 Option.none))), (Value.string (mkStr [58, 58]))]) fun v428 =>
                                                                                    (cnd
                                                                                      (Prog.ret (Value.tuple ⟨[]⟩))
                                                                                      Prog.fail
                                                                                      ((isTupV v428) && (okNs ((Nm.one (Kd.int IntKind.i64)) :: ((Nm.one Kd.raw) :: [])) (tupOf v428)))))
                                                                                  (decide ((intOf v425) = (100 : Int))))
                                                                                Prog.fail
                                                                                (okK (Kd.int IntKind.i64) v425)))
                                                                              (loadT En 3 (blkOf v316) ((offOf v316) + 0)))
                                                                            (decide ((intOf v422) = (98 : Int))))
                                                                          Prog.fail
                                                                          (okK (Kd.int IntKind.i64) v422)))
                                                                        (loadT En 3 (blkOf v316) ((offOf v316) + 0)))
                                                                      (decide ((intOf v419) = (99 : Int))))
                                                                    Prog.fail
                                                                    (okK (Kd.int IntKind.i64) v419)))
                                                                  (loadT En 3 (blkOf v316) ((offOf v316) + 0)))
                                                                (decide ((intOf v416) = (0 : Int))))
                                                              Prog.fail
                                                              (okK (Kd.int IntKind.i64) v416)))
                                                            (loadT En 3 (blkOf v316) ((offOf v316) + 0)))
                                                          (decide ((intOf v399) ≥ (1 : Int))))
                                                        Prog.fail
                                                        (okK (Kd.int IntKind.i64) v399)))
                                                      (loadT En 3 (blkOf v316) ((offOf v316) + 0)))
                                                    (decide ((intOf v329) ≥ (0 : Int))))
                                                  Prog.fail
                                                  (okK (Kd.int IntKind.i64) v329)))
                                                (loadT En 3 (blkOf v316) ((offOf v316) + 0)))
                                              (decide ((intOf v319) = (0 : Int))))
                                            (callP (fun v429 =>
                                              (cnd
                                                (cnd
                                                  (callP (fun v430 =>
                                                    (cnd
                                                      (cnd
                                                        (cnd
                                                          (callP (fun v431 =>
                                                            (cnd
                                                              (Prog.call (callF En (runP En f) 106 [(Value.agg ⟨((Value.int IntKind.i64 (intOf (at_ (aggOf v431) 0))) :: ((lstV (elems (at_ (aggOf v431) 1))) :: ((lstV (elems (at_ (aggOf v431) 2))) :: ((lstV (elems (at_ (aggOf v431) 3))) :: []))))⟩), (Value.int IntKind.i64 (0 : Int))]) fun v432 =>
                                                                (cnd
                                                                  (callP (fun v434 =>
                                                                    (cnd
                                                                      (callP (fun v435 =>
                                                                        (Prog.call (callF En (runP En f) 78 [(Value.pointer (Option.some (Addr.mk x0 0 Option.none))), (Value.string (mkStr [44]))]) fun v436 =>
                                                                          (cnd
                                                                            (callP (fun v437 =>
                                                                              (cnd
                                                                                (Prog.call (callF En (runP En f) 53 [(Value.pointer (Option.some (Addr.mk x0 0 Option.none))), (Value.agg ⟨((Value.int IntKind.i64 (intOf (at_ (aggOf v437) 0))) :: ((lstV (elems (at_ (aggOf v437) 1))) :: ((lstV (elems (at_ (aggOf v437) 2))) :: ((lstV (elems (at_ (aggOf v437) 3))) :: []))))⟩)]) fun v438 =>
                                                                                  (cnd
                                                                                    (Prog.ret (Value.tuple ⟨[]⟩))
                                                                                    Prog.fail
                                                                                    ((isTupV v438) && (okNs [] (tupOf v438)))))
                                                                                Prog.fail
                                                                                ((isAggV v437) && (okKs ((Kd.int IntKind.i64) :: (Kd.lst :: (Kd.lst :: (Kd.lst :: [])))) (aggOf v437)))))
                                                                              (loadT En 32 (blkOf v434) (offOf v434)))
                                                                            Prog.fail
                                                                            ((isTupV v436) && (okNs ((Nm.one (Kd.int IntKind.i64)) :: ((Nm.one Kd.raw) :: [])) (tupOf v436))))))
                                                                        (storeT En 32 (blkOf v434) (offOf v434) (Value.agg ⟨((Value.int IntKind.i64 (intOf (at_ (aggOf (at_ (tupOf v432) 0)) 0))) :: ((lstV (elems (at_ (aggOf (at_ (tupOf v432) 0)) 1))) :: ((lstV (elems (at_ (aggOf (at_ (tupOf v432) 0)) 2))) :: ((lstV (elems (at_ (aggOf (at_ (tupOf v432) 0)) 3))) :: []))))⟩)))
                                                                      Prog.fail
                                                                      (isPt v434)))
                                                                    (Prog.newH (Hdr.mk 4 32 Bool.false Bool.true Bool.true 0 Bool.false Bool.false []) ((Value.int IntKind.i64 (0 : Int)) :: ((Value.slice Option.none 0 0) :: ((Value.slice Option.none 0 0) :: ((Value.slice Option.none 0 0) :: [])))) (fun z433 => (Prog.ret (itP z433)))))
                                                                  Prog.fail
                                                                  ((isTupV v432) && (okNs ((Nm.agg ((Kd.int IntKind.i64) :: (Kd.lst :: (Kd.lst :: (Kd.lst :: []))))) :: ((Nm.one (Kd.int IntKind.i64)) :: [])) (tupOf v432)))))
                                                              Prog.fail
                                                              ((isAggV v431) && (okKs ((Kd.int IntKind.i64) :: (Kd.lst :: (Kd.lst :: (Kd.lst :: [])))) (aggOf v431)))))
                                                            (loadT En 32 (blkOf v316) (offOf v316)))
                                                          (callP (fun v439 =>
                                                            (cnd
                                                              (cnd
                                                                (callP (fun v440 =>
                                                                  (cnd
                                                                    (cnd
                                                                      (callP (fun v441 =>
                                                                        (cnd
                                                                          (Prog.call (callF En (runP En f) 107 [(Value.pointer (Option.some (Addr.mk x0 0 Option.none))), (Value.agg ⟨((Value.int IntKind.i64 (intOf (at_ (aggOf v441) 0))) :: ((lstV (elems (at_ (aggOf v441) 1))) :: ((lstV (elems (at_ (aggOf v441) 2))) :: ((lstV (elems (at_ (aggOf v441) 3))) :: []))))⟩)]) fun v442 =>
                                                                            (cnd
                                                                              (Prog.ret (Value.tuple ⟨[]⟩))
                                                                              Prog.fail
                                                                              ((isTupV v442) && (okNs [] (tupOf v442)))))
                                                                          Prog.fail
                                                                          ((isAggV v441) && (okKs ((Kd.int IntKind.i64) :: (Kd.lst :: (Kd.lst :: (Kd.lst :: [])))) (aggOf v441)))))
                                                                        (loadT En 32 (blkOf v316) (offOf v316)))
                                                                      (callP (fun v443 =>
                                                                        (cnd
                                                                          (cnd
                                                                            (callP (fun v444 =>
                                                                              (cnd
                                                                                (Prog.call (callF En (runP En f) 108 [(Value.pointer (Option.some (Addr.mk x0 0 Option.none))), (Value.string (mkStr [40])), (Value.string (mkStr [59])), (Value.string (mkStr [41])), (lstV (elems v444))]) fun v445 =>
                                                                                  (cnd
                                                                                    (Prog.ret (Value.tuple ⟨[]⟩))
                                                                                    Prog.fail
                                                                                    ((isTupV v445) && (okNs [] (tupOf v445)))))
                                                                                Prog.fail
                                                                                (isLst v444)))
                                                                              (loadT En 30 (blkOf v316) ((offOf v316) + 3)))
                                                                            (callP (fun v446 =>
                                                                              (cnd
                                                                                (cnd
                                                                                  (callP (fun v447 =>
                                                                                    (cnd
                                                                                      (Prog.call (callF En (runP En f) 108 [(Value.pointer (Option.some (Addr.mk x0 0 Option.none))), (Value.string (mkStr [40])), (Value.string (mkStr [33])), (Value.string (mkStr [41])), (lstV (elems v447))]) fun v448 =>
                                                                                        (cnd
                                                                                          (Prog.ret (Value.tuple ⟨[]⟩))
                                                                                          Prog.fail
                                                                                          ((isTupV v448) && (okNs [] (tupOf v448)))))
                                                                                      Prog.fail
                                                                                      (isLst v447)))
                                                                                    (loadT En 30 (blkOf v316) ((offOf v316) + 3)))
                                                                                  (callP (fun v449 =>
                                                                                    (cnd
                                                                                      (cnd
                                                                                        (callP (fun v450 =>
                                                                                          (cnd
                                                                                            (Prog.call (callF En (runP En f) 109 [(Value.pointer (Option.some (Addr.mk x0 0 Option.none))), (Value.agg ⟨((Value.int IntKind.i64 (intOf (at_ (aggOf v450) 0))) :: ((lstV (elems (at_ (aggOf v450) 1))) :: ((lstV (elems (at_ (aggOf v450) 2))) :: ((lstV (elems (at_ (aggOf v450) 3))) :: []))))⟩)]) fun v451 =>
                                                                                              (cnd
                                                                                                (Prog.ret (Value.tuple ⟨[]⟩))
                                                                                                Prog.fail
                                                                                                ((isTupV v451) && (okNs [] (tupOf v451)))))
                                                                                            Prog.fail
                                                                                            ((isAggV v450) && (okKs ((Kd.int IntKind.i64) :: (Kd.lst :: (Kd.lst :: (Kd.lst :: [])))) (aggOf v450)))))
                                                                                          (loadT En 32 (blkOf v316) (offOf v316)))
                                                                                        (callP (fun v452 =>
                                                                                          (cnd
                                                                                            (cnd
                                                                                              (callP (fun v453 =>
                                                                                                (cnd
                                                                                                  (cnd
                                                                                                    (cnd
                                                                                                      (cnd
                                                                                                        (Prog.call (callF En (runP En f) 78 [(Value.pointer (Option.some (Addr.mk x0 0 Option.none))), (Value.string (strOf (List.headD (Array.toList (Value.cells (at_ (elems v453) 0))) (Value.tuple ⟨[]⟩))))]) fun v454 =>
                                                                                                          (cnd
                                                                                                            (Prog.ret (Value.tuple ⟨[]⟩))
                                                                                                            Prog.fail
                                                                                                            ((isTupV v454) && (okNs ((Nm.one (Kd.int IntKind.i64)) :: ((Nm.one Kd.raw) :: [])) (tupOf v454)))))
                                                                                                        Prog.fail
                                                                                                        (okK Kd.str (List.headD (Array.toList (Value.cells (at_ (elems v453) 0))) (Value.tuple ⟨[]⟩))))
                                                                                                      Prog.fail
                                                                                                      (Nat.ble 1 (List.length (Array.toList (Value.cells (at_ (elems v453) 0))))))
                                                                                                    Prog.fail
                                                                                                    (((Nat.ble 1 (List.length (elems v453))) && Bool.true) && (hdOk 1 (elems v453))))
                                                                                                  Prog.fail
                                                                                                  (isLst v453)))
                                                                                                (loadT En 29 (blkOf v316) ((offOf v316) + 2)))
                                                                                              (Prog.call (callF En (runP En f) 78 [(Value.pointer (Option.some (Addr.mk x0 0 Option.none))), (Value.string (mkStr [58, 58]))]) fun v455 =>
                                                                                                (cnd
                                                                                                  (Prog.ret (Value.tuple ⟨[]⟩))
                                                                                                  Prog.fail
                                                                                                  ((isTupV v455) && (okNs ((Nm.one (Kd.int IntKind.i64)) :: ((Nm.one Kd.raw) :: [])) (tupOf v455)))))
                                                                                              (decide ((intOf v452) = (100 : Int))))
                                                                                            Prog.fail
                                                                                            (okK (Kd.int IntKind.i64) v452)))
                                                                                          (loadT En 3 (blkOf v316) ((offOf v316) + 0)))
                                                                                        (decide ((intOf v449) = (98 : Int))))
                                                                                      Prog.fail
                                                                                      (okK (Kd.int IntKind.i64) v449)))
                                                                                    (loadT En 3 (blkOf v316) ((offOf v316) + 0)))
                                                                                  (decide ((intOf v446) = (99 : Int))))
                                                                                Prog.fail
                                                                                (okK (Kd.int IntKind.i64) v446)))
                                                                              (loadT En 3 (blkOf v316) ((offOf v316) + 0)))
                                                                            (decide ((intOf v443) = (0 : Int))))
                                                                          Prog.fail
                                                                          (okK (Kd.int IntKind.i64) v443)))
                                                                        (loadT En 3 (blkOf v316) ((offOf v316) + 0)))
                                                                      (decide ((intOf v440) ≤ (5 : Int))))
                                                                    Prog.fail
                                                                    (okK (Kd.int IntKind.i64) v440)))
                                                                  (loadT En 3 (blkOf v316) ((offOf v316) + 0)))
                                                                (callP (fun v456 =>
                                                                  (cnd
                                                                    (cnd
                                                                      (callP (fun v457 =>
                                                                        (cnd
                                                                          (Prog.call (callF En (runP En f) 108 [(Value.pointer (Option.some (Addr.mk x0 0 Option.none))), (Value.string (mkStr [40])), (Value.string (mkStr [59])), (Value.string (mkStr [41])), (lstV (elems v457))]) fun v458 =>
                                                                            (cnd
                                                                              (Prog.ret (Value.tuple ⟨[]⟩))
                                                                              Prog.fail
                                                                              ((isTupV v458) && (okNs [] (tupOf v458)))))
                                                                          Prog.fail
                                                                          (isLst v457)))
                                                                        (loadT En 30 (blkOf v316) ((offOf v316) + 3)))
                                                                      (callP (fun v459 =>
                                                                        (cnd
                                                                          (cnd
                                                                            (callP (fun v460 =>
                                                                              (cnd
                                                                                (Prog.call (callF En (runP En f) 108 [(Value.pointer (Option.some (Addr.mk x0 0 Option.none))), (Value.string (mkStr [40])), (Value.string (mkStr [33])), (Value.string (mkStr [41])), (lstV (elems v460))]) fun v461 =>
                                                                                  (cnd
                                                                                    (Prog.ret (Value.tuple ⟨[]⟩))
                                                                                    Prog.fail
                                                                                    ((isTupV v461) && (okNs [] (tupOf v461)))))
                                                                                Prog.fail
                                                                                (isLst v460)))
                                                                              (loadT En 30 (blkOf v316) ((offOf v316) + 3)))
                                                                            (callP (fun v462 =>
                                                                              (cnd
                                                                                (cnd
                                                                                  (callP (fun v463 =>
                                                                                    (cnd
                                                                                      (Prog.call (callF En (runP En f) 109 [(Value.pointer (Option.some (Addr.mk x0 0 Option.none))), (Value.agg ⟨((Value.int IntKind.i64 (intOf (at_ (aggOf v463) 0))) :: ((lstV (elems (at_ (aggOf v463) 1))) :: ((lstV (elems (at_ (aggOf v463) 2))) :: ((lstV (elems (at_ (aggOf v463) 3))) :: []))))⟩)]) fun v464 =>
                                                                                        (cnd
                                                                                          (Prog.ret (Value.tuple ⟨[]⟩))
                                                                                          Prog.fail
                                                                                          ((isTupV v464) && (okNs [] (tupOf v464)))))
                                                                                      Prog.fail
                                                                                      ((isAggV v463) && (okKs ((Kd.int IntKind.i64) :: (Kd.lst :: (Kd.lst :: (Kd.lst :: [])))) (aggOf v463)))))
                                                                                    (loadT En 32 (blkOf v316) (offOf v316)))
                                                                                  (callP (fun v465 =>
                                                                                    (cnd
                                                                                      (cnd
                                                                                        (callP (fun v466 =>
                                                                                          (cnd
                                                                                            (cnd
                                                                                              (cnd
                                                                                                (cnd
                                                                                                  (Prog.call (callF En (runP En f) 78 [(Value.pointer (Option.some (Addr.mk x0 0 Option.none))), (Value.string (strOf (List.headD (Array.toList (Value.cells (at_ (elems v466) 0))) (Value.tuple ⟨[]⟩))))]) fun v467 =>
                                                                                                    (cnd
                                                                                                      (Prog.ret (Value.tuple ⟨[]⟩))
                                                                                                      Prog.fail
                                                                                                      ((isTupV v467) && (okNs ((Nm.one (Kd.int IntKind.i64)) :: ((Nm.one Kd.raw) :: [])) (tupOf v467)))))
                                                                                                  Prog.fail
                                                                                                  (okK Kd.str (List.headD (Array.toList (Value.cells (at_ (elems v466) 0))) (Value.tuple ⟨[]⟩))))
                                                                                                Prog.fail
                                                                                                (Nat.ble 1 (List.length (Array.toList (Value.cells (at_ (elems v466) 0))))))
                                                                                              Prog.fail
                                                                                              (((Nat.ble 1 (List.length (elems v466))) && Bool.true) && (hdOk 1 (elems v466))))
                                                                                            Prog.fail
                                                                                            (isLst v466)))
                                                                                          (loadT En 29 (blkOf v316) ((offOf v316) + 2)))
                                                                                        (Prog.call (callF En (runP En f) 78 [(Value.pointer (Option.some (Addr.mk x0 0 Option.none))), (Value.string (mkStr [58, 58]))]) fun v468 =>
                                                                                          (cnd
                                                                                            (Prog.ret (Value.tuple ⟨[]⟩))
                                                                                            Prog.fail
                                                                                            ((isTupV v468) && (okNs ((Nm.one (Kd.int IntKind.i64)) :: ((Nm.one Kd.raw) :: [])) (tupOf v468)))))
                                                                                        (decide ((intOf v465) = (100 : Int))))
                                                                                      Prog.fail
                                                                                      (okK (Kd.int IntKind.i64) v465)))
                                                                                    (loadT En 3 (blkOf v316) ((offOf v316) + 0)))
                                                                                  (decide ((intOf v462) = (98 : Int))))
                                                                                Prog.fail
                                                                                (okK (Kd.int IntKind.i64) v462)))
                                                                              (loadT En 3 (blkOf v316) ((offOf v316) + 0)))
                                                                            (decide ((intOf v459) = (99 : Int))))
                                                                          Prog.fail
                                                                          (okK (Kd.int IntKind.i64) v459)))
                                                                        (loadT En 3 (blkOf v316) ((offOf v316) + 0)))
                                                                      (decide ((intOf v456) = (0 : Int))))
                                                                    Prog.fail
                                                                    (okK (Kd.int IntKind.i64) v456)))
                                                                  (loadT En 3 (blkOf v316) ((offOf v316) + 0)))
                                                                (decide ((intOf v439) ≥ (1 : Int))))
                                                              Prog.fail
                                                              (okK (Kd.int IntKind.i64) v439)))
                                                            (loadT En 3 (blkOf v316) ((offOf v316) + 0)))
                                                          (decide ((intOf v319) = (1 : Int))))
                                                        (callP (fun v469 =>
                                                          (cnd
                                                            (cnd
                                                              (callP (fun v470 =>
                                                                (cnd
                                                                  (cnd
                                                                    (callP (fun v471 =>
                                                                      (cnd
                                                                        (Prog.call (callF En (runP En f) 107 [(Value.pointer (Option.some (Addr.mk x0 0 Option.none))), (Value.agg ⟨((Value.int IntKind.i64 (intOf (at_ (aggOf v471) 0))) :: ((lstV (elems (at_ (aggOf v471) 1))) :: ((lstV (elems (at_ (aggOf v471) 2))) :: ((lstV (elems (at_ (aggOf v471) 3))) :: []))))⟩)]) fun v472 =>
                                                                          (cnd
                                                                            (Prog.ret (Value.tuple ⟨[]⟩))
                                                                            Prog.fail
                                                                            ((isTupV v472) && (okNs [] (tupOf v472)))))
                                                                        Prog.fail
                                                                        ((isAggV v471) && (okKs ((Kd.int IntKind.i64) :: (Kd.lst :: (Kd.lst :: (Kd.lst :: [])))) (aggOf v471)))))
                                                                      (loadT En 32 (blkOf v316) (offOf v316)))
                                                                    (callP (fun v473 =>
                                                                      (cnd
                                                                        (cnd
                                                                          (callP (fun v474 =>
                                                                            (cnd
                                                                              (Prog.call (callF En (runP En f) 108 [(Value.pointer (Option.some (Addr.mk x0 0 Option.none))), (Value.string (mkStr [40])), (Value.string (mkStr [59])), (Value.string (mkStr [41])), (lstV (elems v474))]) fun v475 =>
                                                                                (cnd
                                                                                  (Prog.ret (Value.tuple ⟨[]⟩))
                                                                                  Prog.fail
                                                                                  ((isTupV v475) && (okNs [] (tupOf v475)))))
                                                                              Prog.fail
                                                                              (isLst v474)))
                                                                            (loadT En 30 (blkOf v316) ((offOf v316) + 3)))
                                                                          (callP (fun v476 =>
                                                                            (cnd
                                                                              (cnd
                                                                                (callP (fun v477 =>
                                                                                  (cnd
                                                                                    (Prog.call (callF En (runP En f) 108 [(Value.pointer (Option.some (Addr.mk x0 0 Option.none))), (Value.string (mkStr [40])), (Value.string (mkStr [33])), (Value.string (mkStr [41])), (lstV (elems v477))]) fun v478 =>
                                                                                      (cnd
                                                                                        (Prog.ret (Value.tuple ⟨[]⟩))
                                                                                        Prog.fail
                                                                                        ((isTupV v478) && (okNs [] (tupOf v478)))))
                                                                                    Prog.fail
                                                                                    (isLst v477)))
                                                                                  (loadT En 30 (blkOf v316) ((offOf v316) + 3)))
                                                                                (callP (fun v479 =>
                                                                                  (cnd
                                                                                    (cnd
                                                                                      (callP (fun v480 =>
                                                                                        (cnd
                                                                                          (Prog.call (callF En (runP En f) 109 [(Value.pointer (Option.some (Addr.mk x0 0 Option.none))), (Value.agg ⟨((Value.int IntKind.i64 (intOf (at_ (aggOf v480) 0))) :: ((lstV (elems (at_ (aggOf v480) 1))) :: ((lstV (elems (at_ (aggOf v480) 2))) :: ((lstV (elems (at_ (aggOf v480) 3))) :: []))))⟩)]) fun v481 =>
                                                                                            (cnd
                                                                                              (Prog.ret (Value.tuple ⟨[]⟩))
                                                                                              Prog.fail
                                                                                              ((isTupV v481) && (okNs [] (tupOf v481)))))
                                                                                          Prog.fail
                                                                                          ((isAggV v480) && (okKs ((Kd.int IntKind.i64) :: (Kd.lst :: (Kd.lst :: (Kd.lst :: [])))) (aggOf v480)))))
                                                                                        (loadT En 32 (blkOf v316) (offOf v316)))
                                                                                      (callP (fun v482 =>
                                                                                        (cnd
                                                                                          (cnd
                                                                                            (callP (fun v483 =>
                                                                                              (cnd
                                                                                                (cnd
                                                                                                  (cnd
                                                                                                    (cnd
                                                                                                      (Prog.call (callF En (runP En f) 78 [(Value.pointer (Option.some (Addr.mk x0 0 Option.none))), (Value.string (strOf (List.headD (Array.toList (Value.cells (at_ (elems v483) 0))) (Value.tuple ⟨[]⟩))))]) fun v484 =>
                                                                                                        (cnd
                                                                                                          (Prog.ret (Value.tuple ⟨[]⟩))
                                                                                                          Prog.fail
                                                                                                          ((isTupV v484) && (okNs ((Nm.one (Kd.int IntKind.i64)) :: ((Nm.one Kd.raw) :: [])) (tupOf v484)))))
                                                                                                      Prog.fail
                                                                                                      (okK Kd.str (List.headD (Array.toList (Value.cells (at_ (elems v483) 0))) (Value.tuple ⟨[]⟩))))
                                                                                                    Prog.fail
                                                                                                    (Nat.ble 1 (List.length (Array.toList (Value.cells (at_ (elems v483) 0))))))
                                                                                                  Prog.fail
                                                                                                  (((Nat.ble 1 (List.length (elems v483))) && Bool.true) && (hdOk 1 (elems v483))))
                                                                                                Prog.fail
                                                                                                (isLst v483)))
                                                                                              (loadT En 29 (blkOf v316) ((offOf v316) + 2)))
                                                                                            (Prog.call (callF En (runP En f) 78 [(Value.pointer (Option.some (Addr.mk x0 0 Option.none))), (Value.string (mkStr [58, 58]))]) fun v485 =>
                                                                                              (cnd
                                                                                                (Prog.ret (Value.tuple ⟨[]⟩))
                                                                                                Prog.fail
                                                                                                ((isTupV v485) && (okNs ((Nm.one (Kd.int IntKind.i64)) :: ((Nm.one Kd.raw) :: [])) (tupOf v485)))))
                                                                                            (decide ((intOf v482) = (100 : Int))))
                                                                                          Prog.fail
                                                                                          (okK (Kd.int IntKind.i64) v482)))
                                                                                        (loadT En 3 (blkOf v316) ((offOf v316) + 0)))
                                                                                      (decide ((intOf v479) = (98 : Int))))
                                                                                    Prog.fail
                                                                                    (okK (Kd.int IntKind.i64) v479)))
                                                                                  (loadT En 3 (blkOf v316) ((offOf v316) + 0)))
                                                                                (decide ((intOf v476) = (99 : Int))))
                                                                              Prog.fail
                                                                              (okK (Kd.int IntKind.i64) v476)))
                                                                            (loadT En 3 (blkOf v316) ((offOf v316) + 0)))
                                                                          (decide ((intOf v473) = (0 : Int))))
                                                                        Prog.fail
                                                                        (okK (Kd.int IntKind.i64) v473)))
                                                                      (loadT En 3 (blkOf v316) ((offOf v316) + 0)))
                                                                    (decide ((intOf v470) ≤ (5 : Int))))
                                                                  Prog.fail
                                                                  (okK (Kd.int IntKind.i64) v470)))
                                                                (loadT En 3 (blkOf v316) ((offOf v316) + 0)))
                                                              (callP (fun v486 =>
                                                                (cnd
                                                                  (cnd
                                                                    (callP (fun v487 =>
                                                                      (cnd
                                                                        (Prog.call (callF En (runP En f) 108 [(Value.pointer (Option.some (Addr.mk x0 0 Option.none))), (Value.string (mkStr [40])), (Value.string (mkStr [59])), (Value.string (mkStr [41])), (lstV (elems v487))]) fun v488 =>
                                                                          (cnd
                                                                            (Prog.ret (Value.tuple ⟨[]⟩))
                                                                            Prog.fail
                                                                            ((isTupV v488) && (okNs [] (tupOf v488)))))
                                                                        Prog.fail
                                                                        (isLst v487)))
                                                                      (loadT En 30 (blkOf v316) ((offOf v316) + 3)))
                                                                    (callP (fun v489 =>
                                                                      (cnd
                                                                        (cnd
                                                                          (callP (fun v490 =>
                                                                            (cnd
                                                                              (Prog.call (callF En (runP En f) 108 [(Value.pointer (Option.some (Addr.mk x0 0 Option.none))), (Value.string (mkStr [40])), (Value.string (mkStr [33])), (Value.string (mkStr [41])), (lstV (elems v490))]) fun v491 =>
                                                                                (cnd
                                                                                  (Prog.ret (Value.tuple ⟨[]⟩))
                                                                                  Prog.fail
                                                                                  ((isTupV v491) && (okNs [] (tupOf v491)))))
                                                                              Prog.fail
                                                                              (isLst v490)))
                                                                            (loadT En 30 (blkOf v316) ((offOf v316) + 3)))
                                                                          (callP (fun v492 =>
                                                                            (cnd
                                                                              (cnd
                                                                                (callP (fun v493 =>
                                                                                  (cnd
                                                                                    (Prog.call (callF En (runP En f) 109 [(Value.pointer (Option.some (Addr.mk x0 0 Option.none))), (Value.agg ⟨((Value.int IntKind.i64 (intOf (at_ (aggOf v493) 0))) :: ((lstV (elems (at_ (aggOf v493) 1))) :: ((lstV (elems (at_ (aggOf v493) 2))) :: ((lstV (elems (at_ (aggOf v493) 3))) :: []))))⟩)]) fun v494 =>
                                                                                      (cnd
                                                                                        (Prog.ret (Value.tuple ⟨[]⟩))
                                                                                        Prog.fail
                                                                                        ((isTupV v494) && (okNs [] (tupOf v494)))))
                                                                                    Prog.fail
                                                                                    ((isAggV v493) && (okKs ((Kd.int IntKind.i64) :: (Kd.lst :: (Kd.lst :: (Kd.lst :: [])))) (aggOf v493)))))
                                                                                  (loadT En 32 (blkOf v316) (offOf v316)))
                                                                                (callP (fun v495 =>
                                                                                  (cnd
                                                                                    (cnd
                                                                                      (callP (fun v496 =>
                                                                                        (cnd
                                                                                          (cnd
                                                                                            (cnd
                                                                                              (cnd
                                                                                                (Prog.call (callF En (runP En f) 78 [(Value.pointer (Option.some (Addr.mk x0 0 Option.none))), (Value.string (strOf (List.headD (Array.toList (Value.cells (at_ (elems v496) 0))) (Value.tuple ⟨[]⟩))))]) fun v497 =>
                                                                                                  (cnd
                                                                                                    (Prog.ret (Value.tuple ⟨[]⟩))
                                                                                                    Prog.fail
                                                                                                    ((isTupV v497) && (okNs ((Nm.one (Kd.int IntKind.i64)) :: ((Nm.one Kd.raw) :: [])) (tupOf v497)))))
                                                                                                Prog.fail
                                                                                                (okK Kd.str (List.headD (Array.toList (Value.cells (at_ (elems v496) 0))) (Value.tuple ⟨[]⟩))))
                                                                                              Prog.fail
                                                                                              (Nat.ble 1 (List.length (Array.toList (Value.cells (at_ (elems v496) 0))))))
                                                                                            Prog.fail
                                                                                            (((Nat.ble 1 (List.length (elems v496))) && Bool.true) && (hdOk 1 (elems v496))))
                                                                                          Prog.fail
                                                                                          (isLst v496)))
                                                                                        (loadT En 29 (blkOf v316) ((offOf v316) + 2)))
                                                                                      (Prog.call (callF En (runP En f) 78 [(Value.pointer (Option.some (Addr.mk x0 0 Option.none))), (Value.string (mkStr [58, 58]))]) fun v498 =>
                                                                                        (cnd
                                                                                          (Prog.ret (Value.tuple ⟨[]⟩))
                                                                                          Prog.fail
                                                                                          ((isTupV v498) && (okNs ((Nm.one (Kd.int IntKind.i64)) :: ((Nm.one Kd.raw) :: [])) (tupOf v498)))))
                                                                                      (decide ((intOf v495) = (100 : Int))))
                                                                                    Prog.fail
                                                                                    (okK (Kd.int IntKind.i64) v495)))
                                                                                  (loadT En 3 (blkOf v316) ((offOf v316) + 0)))
                                                                                (decide ((intOf v492) = (98 : Int))))
                                                                              Prog.fail
                                                                              (okK (Kd.int IntKind.i64) v492)))
                                                                            (loadT En 3 (blkOf v316) ((offOf v316) + 0)))
                                                                          (decide ((intOf v489) = (99 : Int))))
                                                                        Prog.fail
                                                                        (okK (Kd.int IntKind.i64) v489)))
                                                                      (loadT En 3 (blkOf v316) ((offOf v316) + 0)))
                                                                    (decide ((intOf v486) = (0 : Int))))
                                                                  Prog.fail
                                                                  (okK (Kd.int IntKind.i64) v486)))
                                                                (loadT En 3 (blkOf v316) ((offOf v316) + 0)))
                                                              (decide ((intOf v469) ≥ (1 : Int))))
                                                            Prog.fail
                                                            (okK (Kd.int IntKind.i64) v469)))
                                                          (loadT En 3 (blkOf v316) ((offOf v316) + 0)))
                                                        (decide ((intOf v430) ≤ (5 : Int))))
                                                      Prog.fail
                                                      (okK (Kd.int IntKind.i64) v430)))
                                                    (loadT En 3 (blkOf v316) ((offOf v316) + 0)))
                                                  (callP (fun v499 =>
                                                    (cnd
                                                      (cnd
                                                        (callP (fun v500 =>
                                                          (cnd
                                                            (cnd
                                                              (callP (fun v501 =>
                                                                (cnd
                                                                  (Prog.call (callF En (runP En f) 107 [(Value.pointer (Option.some (Addr.mk x0 0 Option.none))), (Value.agg ⟨((Value.int IntKind.i64 (intOf (at_ (aggOf v501) 0))) :: ((lstV (elems (at_ (aggOf v501) 1))) :: ((lstV (elems (at_ (aggOf v501) 2))) :: ((lstV (elems (at_ (aggOf v501) 3))) :: []))))⟩)]) fun v502 =>
                                                                    (cnd
                                                                      (Prog.ret (Value.tuple ⟨[]⟩))
                                                                      Prog.fail
                                                                      ((isTupV v502) && (okNs [] (tupOf v502)))))
                                                                  Prog.fail
                                                                  ((isAggV v501) && (okKs ((Kd.int IntKind.i64) :: (Kd.lst :: (Kd.lst :: (Kd.lst :: [])))) (aggOf v501)))))
                                                                (loadT En 32 (blkOf v316) (offOf v316)))
                                                              (callP (fun v503 =>
                                                                (cnd
                                                                  (cnd
                                                                    (callP (fun v504 =>
                                                                      (cnd
                                                                        (Prog.call (callF En (runP En f) 108 [(Value.pointer (Option.some (Addr.mk x0 0 Option.none))), (Value.string (mkStr [40])), (Value.string (mkStr [59])), (Value.string (mkStr [41])), (lstV (elems v504))]) fun v505 =>
                                                                          (cnd
                                                                            (Prog.ret (Value.tuple ⟨[]⟩))
                                                                            Prog.fail
                                                                            ((isTupV v505) && (okNs [] (tupOf v505)))))
                                                                        Prog.fail
                                                                        (isLst v504)))
                                                                      (loadT En 30 (blkOf v316) ((offOf v316) + 3)))
                                                                    (callP (fun v506 =>
                                                                      (cnd
                                                                        (cnd
                                                                          (callP (fun v507 =>
                                                                            (cnd
                                                                              (Prog.call (callF En (runP En f) 108 [(Value.pointer (Option.some (Addr.mk x0 0 Option.none))), (Value.string (mkStr [40])), (Value.string (mkStr [33])), (Value.string (mkStr [41])), (lstV (elems v507))]) fun v508 =>
                                                                                (cnd
                                                                                  (Prog.ret (Value.tuple ⟨[]⟩))
                                                                                  Prog.fail
                                                                                  ((isTupV v508) && (okNs [] (tupOf v508)))))
                                                                              Prog.fail
                                                                              (isLst v507)))
                                                                            (loadT En 30 (blkOf v316) ((offOf v316) + 3)))
                                                                          (callP (fun v509 =>
                                                                            (cnd
                                                                              (cnd
                                                                                (callP (fun v510 =>
                                                                                  (cnd
                                                                                    (Prog.call (callF En (runP En f) 109 [(Value.pointer (Option.some (Addr.mk x0 0 Option.none))), (Value.agg ⟨((Value.int IntKind.i64 (intOf (at_ (aggOf v510) 0))) :: ((lstV (elems (at_ (aggOf v510) 1))) :: ((lstV (elems (at_ (aggOf v510) 2))) :: ((lstV (elems (at_ (aggOf v510) 3))) :: []))))⟩)]) fun v511 =>
                                                                                      (cnd
                                                                                        (Prog.ret (Value.tuple ⟨[]⟩))
                                                                                        Prog.fail
                                                                                        ((isTupV v511) && (okNs [] (tupOf v511)))))
                                                                                    Prog.fail
                                                                                    ((isAggV v510) && (okKs ((Kd.int IntKind.i64) :: (Kd.lst :: (Kd.lst :: (Kd.lst :: [])))) (aggOf v510)))))
                                                                                  (loadT En 32 (blkOf v316) (offOf v316)))
                                                                                (callP (fun v512 =>
                                                                                  (cnd
                                                                                    (cnd
                                                                                      (callP (fun v513 =>
                                                                                        (cnd
                                                                                          (cnd
                                                                                            (cnd
                                                                                              (cnd
                                                                                                (Prog.call (callF En (runP En f) 78 [(Value.pointer (Option.some (Addr.mk x0 0 Option.none))), (Value.string (strOf (List.headD (Array.toList (Value.cells (at_ (elems v513) 0))) (Value.tuple ⟨[]⟩))))]) fun v514 =>
                                                                                                  (cnd
                                                                                                    (Prog.ret (Value.tuple ⟨[]⟩))
                                                                                                    Prog.fail
                                                                                                    ((isTupV v514) && (okNs ((Nm.one (Kd.int IntKind.i64)) :: ((Nm.one Kd.raw) :: [])) (tupOf v514)))))
                                                                                                Prog.fail
                                                                                                (okK Kd.str (List.headD (Array.toList (Value.cells (at_ (elems v513) 0))) (Value.tuple ⟨[]⟩))))
                                                                                              Prog.fail
                                                                                              (Nat.ble 1 (List.length (Array.toList (Value.cells (at_ (elems v513) 0))))))
                                                                                            Prog.fail
                                                                                            (((Nat.ble 1 (List.length (elems v513))) && Bool.true) && (hdOk 1 (elems v513))))
                                                                                          Prog.fail
                                                                                          (isLst v513)))
                                                                                        (loadT En 29 (blkOf v316) ((offOf v316) + 2)))
                                                                                      (Prog.call (callF En (runP En f) 78 [(Value.pointer (Option.some (Addr.mk x0 0 Option.none))), (Value.string (mkStr [58, 58]))]) fun v515 =>
                                                                                        (cnd
                                                                                          (Prog.ret (Value.tuple ⟨[]⟩))
                                                                                          Prog.fail
                                                                                          ((isTupV v515) && (okNs ((Nm.one (Kd.int IntKind.i64)) :: ((Nm.one Kd.raw) :: [])) (tupOf v515)))))
                                                                                      (decide ((intOf v512) = (100 : Int))))
                                                                                    Prog.fail
                                                                                    (okK (Kd.int IntKind.i64) v512)))
                                                                                  (loadT En 3 (blkOf v316) ((offOf v316) + 0)))
                                                                                (decide ((intOf v509) = (98 : Int))))
                                                                              Prog.fail
                                                                              (okK (Kd.int IntKind.i64) v509)))
                                                                            (loadT En 3 (blkOf v316) ((offOf v316) + 0)))
                                                                          (decide ((intOf v506) = (99 : Int))))
                                                                        Prog.fail
                                                                        (okK (Kd.int IntKind.i64) v506)))
                                                                      (loadT En 3 (blkOf v316) ((offOf v316) + 0)))
                                                                    (decide ((intOf v503) = (0 : Int))))
                                                                  Prog.fail
                                                                  (okK (Kd.int IntKind.i64) v503)))
                                                                (loadT En 3 (blkOf v316) ((offOf v316) + 0)))
                                                              (decide ((intOf v500) ≤ (5 : Int))))
                                                            Prog.fail
                                                            (okK (Kd.int IntKind.i64) v500)))
                                                          (loadT En 3 (blkOf v316) ((offOf v316) + 0)))
                                                        (callP (fun v516 =>
                                                          (cnd
                                                            (cnd
                                                              (callP (fun v517 =>
                                                                (cnd
                                                                  (Prog.call (callF En (runP En f) 108 [(Value.pointer (Option.some (Addr.mk x0 0 Option.none))), (Value.string (mkStr [40])), (Value.string (mkStr [59])), (Value.string (mkStr [41])), (lstV (elems v517))]) fun v518 =>
                                                                    (cnd
                                                                      (Prog.ret (Value.tuple ⟨[]⟩))
                                                                      Prog.fail
                                                                      ((isTupV v518) && (okNs [] (tupOf v518)))))
                                                                  Prog.fail
                                                                  (isLst v517)))
                                                                (loadT En 30 (blkOf v316) ((offOf v316) + 3)))
                                                              (callP (fun v519 =>
                                                                (cnd
                                                                  (cnd
                                                                    (callP (fun v520 =>
                                                                      (cnd
                                                                        (Prog.call (callF En (runP En f) 108 [(Value.pointer (Option.some (Addr.mk x0 0 Option.none))), (Value.string (mkStr [40])), (Value.string (mkStr [33])), (Value.string (mkStr [41])), (lstV (elems v520))]) fun v521 =>
                                                                          (cnd
                                                                            (Prog.ret (Value.tuple ⟨[]⟩))
                                                                            Prog.fail
                                                                            ((isTupV v521) && (okNs [] (tupOf v521)))))
                                                                        Prog.fail
                                                                        (isLst v520)))
                                                                      (loadT En 30 (blkOf v316) ((offOf v316) + 3)))
                                                                    (callP (fun v522 =>
                                                                      (cnd
                                                                        (cnd
                                                                          (callP (fun v523 =>
                                                                            (cnd
                                                                              (Prog.call (callF En (runP En f) 109 [(Value.pointer (Option.some (Addr.mk x0 0 Option.none))), (Value.agg ⟨((Value.int IntKind.i64 (intOf (at_ (aggOf v523) 0))) :: ((lstV (elems (at_ (aggOf v523) 1))) :: ((lstV (elems (at_ (aggOf v523) 2))) :: ((lstV (elems (at_ (aggOf v523) 3))) :: []))))⟩)]) fun v524 =>
                                                                                (cnd
                                                                                  (Prog.ret (Value.tuple ⟨[]⟩))
                                                                                  Prog.fail
                                                                                  ((isTupV v524) && (okNs [] (tupOf v524)))))
                                                                              Prog.fail
                                                                              ((isAggV v523) && (okKs ((Kd.int IntKind.i64) :: (Kd.lst :: (Kd.lst :: (Kd.lst :: [])))) (aggOf v523)))))
                                                                            (loadT En 32 (blkOf v316) (offOf v316)))
                                                                          (callP (fun v525 =>
                                                                            (cnd
                                                                              (cnd
                                                                                (callP (fun v526 =>
                                                                                  (cnd
                                                                                    (cnd
                                                                                      (cnd
                                                                                        (cnd
                                                                                          (Prog.call (callF En (runP En f) 78 [(Value.pointer (Option.some (Addr.mk x0 0 Option.none))), (Value.string (strOf (List.headD (Array.toList (Value.cells (at_ (elems v526) 0))) (Value.tuple ⟨[]⟩))))]) fun v527 =>
                                                                                            (cnd
                                                                                              (Prog.ret (Value.tuple ⟨[]⟩))
                                                                                              Prog.fail
                                                                                              ((isTupV v527) && (okNs ((Nm.one (Kd.int IntKind.i64)) :: ((Nm.one Kd.raw) :: [])) (tupOf v527)))))
                                                                                          Prog.fail
                                                                                          (okK Kd.str (List.headD (Array.toList (Value.cells (at_ (elems v526) 0))) (Value.tuple ⟨[]⟩))))
                                                                                        Prog.fail
                                                                                        (Nat.ble 1 (List.length (Array.toList (Value.cells (at_ (elems v526) 0))))))
                                                                                      Prog.fail
                                                                                      (((Nat.ble 1 (List.length (elems v526))) && Bool.true) && (hdOk 1 (elems v526))))
                                                                                    Prog.fail
                                                                                    (isLst v526)))
                                                                                  (loadT En 29 (blkOf v316) ((offOf v316) + 2)))
                                                                                (Prog.call (callF En (runP En f) 78 [(Value.pointer (Option.some (Addr.mk x0 0 Option.none))), (Value.string (mkStr [58, 58]))]) fun v528 =>
                                                                                  (cnd
                                                                                    (Prog.ret (Value.tuple ⟨[]⟩))
                                                                                    Prog.fail
                                                                                    ((isTupV v528) && (okNs ((Nm.one (Kd.int IntKind.i64)) :: ((Nm.one Kd.raw) :: [])) (tupOf v528)))))
                                                                                (decide ((intOf v525) = (100 : Int))))
                                                                              Prog.fail
                                                                              (okK (Kd.int IntKind.i64) v525)))
                                                                            (loadT En 3 (blkOf v316) ((offOf v316) + 0)))
                                                                          (decide ((intOf v522) = (98 : Int))))
                                                                        Prog.fail
                                                                        (okK (Kd.int IntKind.i64) v522)))
                                                                      (loadT En 3 (blkOf v316) ((offOf v316) + 0)))
                                                                    (decide ((intOf v519) = (99 : Int))))
                                                                  Prog.fail
                                                                  (okK (Kd.int IntKind.i64) v519)))
                                                                (loadT En 3 (blkOf v316) ((offOf v316) + 0)))
                                                              (decide ((intOf v516) = (0 : Int))))
                                                            Prog.fail
                                                            (okK (Kd.int IntKind.i64) v516)))
                                                          (loadT En 3 (blkOf v316) ((offOf v316) + 0)))
                                                        (decide ((intOf v499) ≥ (1 : Int))))
                                                      Prog.fail
                                                      (okK (Kd.int IntKind.i64) v499)))
                                                    (loadT En 3 (blkOf v316) ((offOf v316) + 0)))
                                                  (decide ((intOf v429) ≥ (0 : Int))))
                                                Prog.fail
                                                (okK (Kd.int IntKind.i64) v429)))
                                              (loadT En 3 (blkOf v316) ((offOf v316) + 0)))
                                            (decide ((intOf v325) ≤ (5 : Int))))
                                          Prog.fail
                                          (okK (Kd.int IntKind.i64) v325)))
                                        (loadT En 3 (blkOf v316) ((offOf v316) + 0)))
                                      (callP (fun v529 =>
                                        (cnd
                                          (cnd
                                            (callP (fun v530 =>
                                              (cnd
                                                (cnd
                                                  (cnd
                                                    (callP (fun v531 =>
                                                      (cnd
                                                        (Prog.call (callF En (runP En f) 106 [(Value.agg ⟨((Value.int IntKind.i64 (intOf (at_ (aggOf v531) 0))) :: ((lstV (elems (at_ (aggOf v531) 1))) :: ((lstV (elems (at_ (aggOf v531) 2))) :: ((lstV (elems (at_ (aggOf v531) 3))) :: []))))⟩), (Value.int IntKind.i64 (0 : Int))]) fun v532 =>
                                                          (cnd
                                                            (callP (fun v534 =>
                                                              (cnd
                                                                (callP (fun v535 =>
                                                                  (Prog.call (callF En (runP En f) 78 [(Value.pointer (Option.some (Addr.mk x0 0 Option.none))), (Value.string (mkStr [44]))]) fun v536 =>
                                                                    (cnd
                                                                      (callP (fun v537 =>
                                                                        (cnd
                                                                          (Prog.call (callF En (runP En f) 53 [(Value.pointer (Option.some (Addr.mk x0 0 Option.none))), (Value.agg ⟨((Value.int IntKind.i64 (intOf (at_ (aggOf v537) 0))) :: ((lstV (elems (at_ (aggOf v537) 1))) :: ((lstV (elems (at_ (aggOf v537) 2))) :: ((lstV (elems (at_ (aggOf v537) 3))) :: []))))⟩)]) fun v538 =>
                                                                            (cnd
                                                                              (Prog.ret (Value.tuple ⟨[]⟩))
                                                                              Prog.fail
                                                                              ((isTupV v538) && (okNs [] (tupOf v538)))))
                                                                          Prog.fail
                                                                          ((isAggV v537) && (okKs ((Kd.int IntKind.i64) :: (Kd.lst :: (Kd.lst :: (Kd.lst :: [])))) (aggOf v537)))))
                                                                        (loadT En 32 (blkOf v534) (offOf v534)))
                                                                      Prog.fail
                                                                      ((isTupV v536) && (okNs ((Nm.one (Kd.int IntKind.i64)) :: ((Nm.one Kd.raw) :: [])) (tupOf v536))))))
                                                                  (storeT En 32 (blkOf v534) (offOf v534) (Value.agg ⟨((Value.int IntKind.i64 (intOf (at_ (aggOf (at_ (tupOf v532) 0)) 0))) :: ((lstV (elems (at_ (aggOf (at_ (tupOf v532) 0)) 1))) :: ((lstV (elems (at_ (aggOf (at_ (tupOf v532) 0)) 2))) :: ((lstV (elems (at_ (aggOf (at_ (tupOf v532) 0)) 3))) :: []))))⟩)))
                                                                Prog.fail
                                                                (isPt v534)))
                                                              (Prog.newH (Hdr.mk 4 32 Bool.false Bool.true Bool.true 0 Bool.false Bool.false []) ((Value.int IntKind.i64 (0 : Int)) :: ((Value.slice Option.none 0 0) :: ((Value.slice Option.none 0 0) :: ((Value.slice Option.none 0 0) :: [])))) (fun z533 => (Prog.ret (itP z533)))))
                                                            Prog.fail
                                                            ((isTupV v532) && (okNs ((Nm.agg ((Kd.int IntKind.i64) :: (Kd.lst :: (Kd.lst :: (Kd.lst :: []))))) :: ((Nm.one (Kd.int IntKind.i64)) :: [])) (tupOf v532)))))
                                                        Prog.fail
                                                        ((isAggV v531) && (okKs ((Kd.int IntKind.i64) :: (Kd.lst :: (Kd.lst :: (Kd.lst :: [])))) (aggOf v531)))))
                                                      (loadT En 32 (blkOf v316) (offOf v316)))
                                                    (callP (fun v539 =>
                                                      (cnd
                                                        (cnd
                                                          (callP (fun v540 =>
                                                            (cnd
                                                              (cnd
                                                                (callP (fun v541 =>
                                                                  (cnd
                                                                    (Prog.call (callF En (runP En f) 107 [(Value.pointer (Option.some (Addr.mk x0 0 Option.none))), (Value.agg ⟨((Value.int IntKind.i64 (intOf (at_ (aggOf v541) 0))) :: ((lstV (elems (at_ (aggOf v541) 1))) :: ((lstV (elems (at_ (aggOf v541) 2))) :: ((lstV (elems (at_ (aggOf v541) 3))) :: []))))⟩)]) fun v542 =>
                                                                      (cnd
                                                                        (Prog.ret (Value.tuple ⟨[]⟩))
                                                                        Prog.fail
                                                                        ((isTupV v542) && (okNs [] (tupOf v542)))))
                                                                    Prog.fail
                                                                    ((isAggV v541) && (okKs ((Kd.int IntKind.i64) :: (Kd.lst :: (Kd.lst :: (Kd.lst :: [])))) (aggOf v541)))))
                                                                  (loadT En 32 (blkOf v316) (offOf v316)))
                                                                (callP (fun v543 =>
                                                                  (cnd
                                                                    (cnd
                                                                      (callP (fun v544 =>
                                                                        (cnd
                                                                          (Prog.call (callF En (runP En f) 108 [(Value.pointer (Option.some (Addr.mk x0 0 Option.none))), (Value.string (mkStr [40])), (Value.string (mkStr [59])), (Value.string (mkStr [41])), (lstV (elems v544))]) fun v545 =>
                                                                            (cnd
                                                                              (Prog.ret (Value.tuple ⟨[]⟩))
                                                                              Prog.fail
                                                                              ((isTupV v545) && (okNs [] (tupOf v545)))))
                                                                          Prog.fail
                                                                          (isLst v544)))
                                                                        (loadT En 30 (blkOf v316) ((offOf v316) + 3)))
                                                                      (callP (fun v546 =>
                                                                        (cnd
                                                                          (cnd
                                                                            (callP (fun v547 =>
                                                                              (cnd
                                                                                (Prog.call (callF En (runP En f) 108 [(Value.pointer (Option.some (Addr.mk x0 0 Option.none))), (Value.string (mkStr [40])), (Value.string (mkStr [33])), (Value.string (mkStr [41])), (lstV (elems v547))]) fun v548 =>
                                                                                  (cnd
                                                                                    (Prog.ret (Value.tuple ⟨[]⟩))
                                                                                    Prog.fail
                                                                                    ((isTupV v548) && (okNs [] (tupOf v548)))))
                                                                                Prog.fail
                                                                                (isLst v547)))
                                                                              (loadT En 30 (blkOf v316) ((offOf v316) + 3)))
                                                                            (callP (fun v549 =>
                                                                              (cnd
                                                                                (cnd
                                                                                  (callP (fun v550 =>
                                                                                    (cnd
                                                                                      (Prog.call (callF En (runP En f) 109 [(Value.pointer (Option.some (Addr.mk x0 0 Option.none))), (Value.agg ⟨((Value.int IntKind.i64 (intOf (at_ (aggOf v550) 0))) :: ((lstV (elems (at_ (aggOf v550) 1))) :: ((lstV (elems (at_ (aggOf v550) 2))) :: ((lstV (elems (at_ (aggOf v550) 3))) :: []))))⟩)]) fun v551 =>
                                                                                        (cnd
                                                                                          (Prog.ret (Value.tuple ⟨[]⟩))
                                                                                          Prog.fail
                                                                                          ((isTupV v551) && (okNs [] (tupOf v551)))))
                                                                                      Prog.fail
                                                                                      ((isAggV v550) && (okKs ((Kd.int IntKind.i64) :: (Kd.lst :: (Kd.lst :: (Kd.lst :: [])))) (aggOf v550)))))
                                                                                    (loadT En 32 (blkOf v316) (offOf v316)))
                                                                                  (callP (fun v552 =>
                                                                                    (cnd
                                                                                      (cnd
                                                                                        (callP (fun v553 =>
                                                                                          (cnd
                                                                                            (cnd
                                                                                              (cnd
                                                                                                (cnd
                                                                                                  (Prog.call (callF En (runP En f) 78 [(Value.pointer (Option.some (Addr.mk x0 0 Option.none))), (Value.string (strOf (List.headD (Array.toList (Value.cells (at_ (elems v553) 0))) (Value.tuple ⟨[]⟩))))]) fun v554 =>
                                                                                                    (cnd
                                                                                                      (Prog.ret (Value.tuple ⟨[]⟩))
                                                                                                      Prog.fail
                                                                                                      ((isTupV v554) && (okNs ((Nm.one (Kd.int IntKind.i64)) :: ((Nm.one Kd.raw) :: [])) (tupOf v554)))))
                                                                                                  Prog.fail
                                                                                                  (okK Kd.str (List.headD (Array.toList (Value.cells (at_ (elems v553) 0))) (Value.tuple ⟨[]⟩))))
                                                                                                Prog.fail
                                                                                                (Nat.ble 1 (List.length (Array.toList (Value.cells (at_ (elems v553) 0))))))
                                                                                              Prog.fail
                                                                                              (((Nat.ble 1 (List.length (elems v553))) && Bool.true) && (hdOk 1 (elems v553))))
                                                                                            Prog.fail
                                                                                            (isLst v553)))
                                                                                          (loadT En 29 (blkOf v316) ((offOf v316) + 2)))
                                                                                        (Prog.call (callF En (runP En f) 78 [(Value.pointer (Option.some (Addr.mk x0 0 Option.none))), (Value.string (mkStr [58, 58]))]) fun v555 =>
                                                                                          (cnd
                                                                                            (Prog.ret (Value.tuple ⟨[]⟩))
                                                                                            Prog.fail
                                                                                            ((isTupV v555) && (okNs ((Nm.one (Kd.int IntKind.i64)) :: ((Nm.one Kd.raw) :: [])) (tupOf v555)))))
                                                                                        (decide ((intOf v552) = (100 : Int))))
                                                                                      Prog.fail
                                                                                      (okK (Kd.int IntKind.i64) v552)))
                                                                                    (loadT En 3 (blkOf v316) ((offOf v316) + 0)))
                                                                                  (decide ((intOf v549) = (98 : Int))))
                                                                                Prog.fail
                                                                                (okK (Kd.int IntKind.i64) v549)))
                                                                              (loadT En 3 (blkOf v316) ((offOf v316) + 0)))
                                                                            (decide ((intOf v546) = (99 : Int))))
                                                                          Prog.fail
                                                                          (okK (Kd.int IntKind.i64) v546)))
                                                                        (loadT En 3 (blkOf v316) ((offOf v316) + 0)))
                                                                      (decide ((intOf v543) = (0 : Int))))
                                                                    Prog.fail
                                                                    (okK (Kd.int IntKind.i64) v543)))
                                                                  (loadT En 3 (blkOf v316) ((offOf v316) + 0)))
                                                                (decide ((intOf v540) ≤ (5 : Int))))
                                                              Prog.fail
                                                              (okK (Kd.int IntKind.i64) v540)))
                                                            (loadT En 3 (blkOf v316) ((offOf v316) + 0)))
                                                          (callP (fun v556 =>
                                                            (cnd
                                                              (cnd
                                                                (callP (fun v557 =>
                                                                  (cnd
                                                                    (Prog.call (callF En (runP En f) 108 [(Value.pointer (Option.some (Addr.mk x0 0 Option.none))), (Value.string (mkStr [40])), (Value.string (mkStr [59])), (Value.string (mkStr [41])), (lstV (elems v557))]) fun v558 =>
                                                                      (cnd
                                                                        (Prog.ret (Value.tuple ⟨[]⟩))
                                                                        Prog.fail
                                                                        ((isTupV v558) && (okNs [] (tupOf v558)))))
                                                                    Prog.fail
                                                                    (isLst v557)))
                                                                  (loadT En 30 (blkOf v316) ((offOf v316) + 3)))
                                                                (callP (fun v559 =>
                                                                  (cnd
                                                                    (cnd
                                                                      (callP (fun v560 =>
                                                                        (cnd
                                                                          (Prog.call (callF En (runP En f) 108 [(Value.pointer (Option.some (Addr.mk x0 0 Option.none))), (Value.string (mkStr [40])), (Value.string (mkStr [33])), (Value.string (mkStr [41])), (lstV (elems v560))]) fun v561 =>
                                                                            (cnd
                                                                              (Prog.ret (Value.tuple ⟨[]⟩))
                                                                              Prog.fail
                                                                              ((isTupV v561) && (okNs [] (tupOf v561)))))
                                                                          Prog.fail
                                                                          (isLst v560)))
                                                                        (loadT En 30 (blkOf v316) ((offOf v316) + 3)))
                                                                      (callP (fun v562 =>
                                                                        (cnd
                                                                          (cnd
                                                                            (callP (fun v563 =>
                                                                              (cnd
                                                                                (Prog.call (callF En (runP En f) 109 [(Value.pointer (Option.some (Addr.mk x0 0 Option.none))), (Value.agg ⟨((Value.int IntKind.i64 (intOf (at_ (aggOf v563) 0))) :: ((lstV (elems (at_ (aggOf v563) 1))) :: ((lstV (elems (at_ (aggOf v563) 2))) :: ((lstV (elems (at_ (aggOf v563) 3))) :: []))))⟩)]) fun v564 =>
                                                                                  (cnd
                                                                                    (Prog.ret (Value.tuple ⟨[]⟩))
                                                                                    Prog.fail
                                                                                    ((isTupV v564) && (okNs [] (tupOf v564)))))
                                                                                Prog.fail
                                                                                ((isAggV v563) && (okKs ((Kd.int IntKind.i64) :: (Kd.lst :: (Kd.lst :: (Kd.lst :: [])))) (aggOf v563)))))
                                                                              (loadT En 32 (blkOf v316) (offOf v316)))
                                                                            (callP (fun v565 =>
                                                                              (cnd
                                                                                (cnd
                                                                                  (callP (fun v566 =>
                                                                                    (cnd
                                                                                      (cnd
                                                                                        (cnd
                                                                                          (cnd
                                                                                            (Prog.call (callF En (runP En f) 78 [(Value.pointer (Option.some (Addr.mk x0 0 Option.none))), (Value.string (strOf (List.headD (Array.toList (Value.cells (at_ (elems v566) 0))) (Value.tuple ⟨[]⟩))))]) fun v567 =>
                                                                                              (cnd
                                                                                                (Prog.ret (Value.tuple ⟨[]⟩))
                                                                                                Prog.fail
                                                                                                ((isTupV v567) && (okNs ((Nm.one (Kd.int IntKind.i64)) :: ((Nm.one Kd.raw) :: [])) (tupOf v567)))))
                                                                                            Prog.fail
                                                                                            (okK Kd.str (List.headD (Array.toList (Value.cells (at_ (elems v566) 0))) (Value.tuple ⟨[]⟩))))
                                                                                          Prog.fail
                                                                                          (Nat.ble 1 (List.length (Array.toList (Value.cells (at_ (elems v566) 0))))))
                                                                                        Prog.fail
                                                                                        (((Nat.ble 1 (List.length (elems v566))) && Bool.true) && (hdOk 1 (elems v566))))
                                                                                      Prog.fail
                                                                                      (isLst v566)))
                                                                                    (loadT En 29 (blkOf v316) ((offOf v316) + 2)))
                                                                                  (Prog.call (callF En (runP En f) 78 [(Value.pointer (Option.some (Addr.mk x0 0 Option.none))), (Value.string (mkStr [58, 58]))]) fun v568 =>
                                                                                    (cnd
                                                                                      (Prog.ret (Value.tuple ⟨[]⟩))
                                                                                      Prog.fail
                                                                                      ((isTupV v568) && (okNs ((Nm.one (Kd.int IntKind.i64)) :: ((Nm.one Kd.raw) :: [])) (tupOf v568)))))
                                                                                  (decide ((intOf v565) = (100 : Int))))
                                                                                Prog.fail
                                                                                (okK (Kd.int IntKind.i64) v565)))
                                                                              (loadT En 3 (blkOf v316) ((offOf v316) + 0)))
                                                                            (decide ((intOf v562) = (98 : Int))))
                                                                          Prog.fail
                                                                          (okK (Kd.int IntKind.i64) v562)))
                                                                        (loadT En 3 (blkOf v316) ((offOf v316) + 0)))
                                                                      (decide ((intOf v559) = (99 : Int))))
                                                                    Prog.fail
                                                                    (okK (Kd.int IntKind.i64) v559)))
                                                                  (loadT En 3 (blkOf v316) ((offOf v316) + 0)))
                                                                (decide ((intOf v556) = (0 : Int))))
                                                              Prog.fail
                                                              (okK (Kd.int IntKind.i64) v556)))
                                                            (loadT En 3 (blkOf v316) ((offOf v316) + 0)))
                                                          (decide ((intOf v539) ≥ (1 : Int))))
                                                        Prog.fail
                                                        (okK (Kd.int IntKind.i64) v539)))
                                                      (loadT En 3 (blkOf v316) ((offOf v316) + 0)))
                                                    (decide ((intOf v319) = (1 : Int))))
                                                  (callP (fun v569 =>
                                                    (cnd
                                                      (cnd
                                                        (callP (fun v570 =>
                                                          (cnd
                                                            (cnd
                                                              (callP (fun v571 =>
                                                                (cnd
                                                                  (Prog.call (callF En (runP En f) 107 [(Value.pointer (Option.some (Addr.mk x0 0 Option.none))), (Value.agg ⟨((Value.int IntKind.i64 (intOf (at_ (aggOf v571) 0))) :: ((lstV (elems (at_ (aggOf v571) 1))) :: ((lstV (elems (at_ (aggOf v571) 2))) :: ((lstV (elems (at_ (aggOf v571) 3))) :: []))))⟩)]) fun v572 =>
                                                                    (cnd
                                                                      (Prog.ret (Value.tuple ⟨[]⟩))
                                                                      Prog.fail
                                                                      ((isTupV v572) && (okNs [] (tupOf v572)))))
                                                                  Prog.fail
                                                                  ((isAggV v571) && (okKs ((Kd.int IntKind.i64) :: (Kd.lst :: (Kd.lst :: (Kd.lst :: [])))) (aggOf v571)))))
                                                                (loadT En 32 (blkOf v316) (offOf v316)))
                                                              (callP (fun v573 =>
                                                                (cnd
                                                                  (cnd
                                                                    (callP (fun v574 =>
                                                                      (cnd
                                                                        (Prog.call (callF En (runP En f) 108 [(Value.pointer (Option.some (Addr.mk x0 0 Option.none))), (Value.string (mkStr [40])), (Value.string (mkStr [59])), (Value.string (mkStr [41])), (lstV (elems v574))]) fun v575 =>
                                                                          (cnd
                                                                            (Prog.ret (Value.tuple ⟨[]⟩))
                                                                            Prog.fail
                                                                            ((isTupV v575) && (okNs [] (tupOf v575)))))
                                                                        Prog.fail
                                                                        (isLst v574)))
                                                                      (loadT En 30 (blkOf v316) ((offOf v316) + 3)))
                                                                    (callP (fun v576 =>
                                                                      (cnd
                                                                        (cnd
                                                                          (callP (fun v577 =>
                                                                            (cnd
                                                                              (Prog.call (callF En (runP En f) 108 [(Value.pointer (Option.some (Addr.mk x0 0 Option.none))), (Value.string (mkStr [40])), (Value.string (mkStr [33])), (Value.string (mkStr [41])), (lstV (elems v577))]) fun v578 =>
                                                                                (cnd
                                                                                  (Prog.ret (Value.tuple ⟨[]⟩))
                                                                                  Prog.fail
                                                                                  ((isTupV v578) && (okNs [] (tupOf v578)))))
                                                                              Prog.fail
                                                                              (isLst v577)))
                                                                            (loadT En 30 (blkOf v316) ((offOf v316) + 3)))
                                                                          (callP (fun v579 =>
                                                                            (cnd
                                                                              (cnd
                                                                                (callP (fun v580 =>
                                                                                  (cnd
                                                                                    (Prog.call (callF En (runP En f) 109 [(Value.pointer (Option.some (Addr.mk x0 0 Option.none))), (Value.agg ⟨((Value.int IntKind.i64 (intOf (at_ (aggOf v580) 0))) :: ((lstV (elems (at_ (aggOf v580) 1))) :: ((lstV (elems (at_ (aggOf v580) 2))) :: ((lstV (elems (at_ (aggOf v580) 3))) :: []))))⟩)]) fun v581 =>
                                                                                      (cnd
                                                                                        (Prog.ret (Value.tuple ⟨[]⟩))
                                                                                        Prog.fail
                                                                                        ((isTupV v581) && (okNs [] (tupOf v581)))))
                                                                                    Prog.fail
                                                                                    ((isAggV v580) && (okKs ((Kd.int IntKind.i64) :: (Kd.lst :: (Kd.lst :: (Kd.lst :: [])))) (aggOf v580)))))
                                                                                  (loadT En 32 (blkOf v316) (offOf v316)))
                                                                                (callP (fun v582 =>
                                                                                  (cnd
                                                                                    (cnd
                                                                                      (callP (fun v583 =>
                                                                                        (cnd
                                                                                          (cnd
                                                                                            (cnd
                                                                                              (cnd
                                                                                                (Prog.call (callF En (runP En f) 78 [(Value.pointer (Option.some (Addr.mk x0 0 Option.none))), (Value.string (strOf (List.headD (Array.toList (Value.cells (at_ (elems v583) 0))) (Value.tuple ⟨[]⟩))))]) fun v584 =>
                                                                                                  (cnd
                                                                                                    (Prog.ret (Value.tuple ⟨[]⟩))
                                                                                                    Prog.fail
                                                                                                    ((isTupV v584) && (okNs ((Nm.one (Kd.int IntKind.i64)) :: ((Nm.one Kd.raw) :: [])) (tupOf v584)))))
                                                                                                Prog.fail
                                                                                                (okK Kd.str (List.headD (Array.toList (Value.cells (at_ (elems v583) 0))) (Value.tuple ⟨[]⟩))))
                                                                                              Prog.fail
                                                                                              (Nat.ble 1 (List.length (Array.toList (Value.cells (at_ (elems v583) 0))))))
                                                                                            Prog.fail
                                                                                            (((Nat.ble 1 (List.length (elems v583))) && Bool.true) && (hdOk 1 (elems v583))))
                                                                                          Prog.fail
                                                                                          (isLst v583)))
                                                                                        (loadT En 29 (blkOf v316) ((offOf v316) + 2)))
                                                                                      (Prog.call (callF En (runP En f) 78 [(Value.pointer (Option.some (Addr.mk x0 0 Option.none))), (Value.string (mkStr [58, 58]))]) fun v585 =>
                                                                                        (cnd
                                                                                          (Prog.ret (Value.tuple ⟨[]⟩))
                                                                                          Prog.fail
                                                                                          ((isTupV v585) && (okNs ((Nm.one (Kd.int IntKind.i64)) :: ((Nm.one Kd.raw) :: [])) (tupOf v585)))))
                                                                                      (decide ((intOf v582) = (100 : Int))))
                                                                                    Prog.fail
                                                                                    (okK (Kd.int IntKind.i64) v582)))
                                                                                  (loadT En 3 (blkOf v316) ((offOf v316) + 0)))
                                                                                (decide ((intOf v579) = (98 : Int))))
                                                                              Prog.fail
                                                                              (okK (Kd.int IntKind.i64) v579)))
                                                                            (loadT En 3 (blkOf v316) ((offOf v316) + 0)))
                                                                          (decide ((intOf v576) = (99 : Int))))
                                                                        Prog.fail
                                                                        (okK (Kd.int IntKind.i64) v576)))
                                                                      (loadT En 3 (blkOf v316) ((offOf v316) + 0)))
                                                                    (decide ((intOf v573) = (0 : Int))))
                                                                  Prog.fail
                                                                  (okK (Kd.int IntKind.i64) v573)))
                                                                (loadT En 3 (blkOf v316) ((offOf v316) + 0)))
                                                              (decide ((intOf v570) ≤ (5 : Int))))
                                                            Prog.fail
                                                            (okK (Kd.int IntKind.i64) v570)))
                                                          (loadT En 3 (blkOf v316) ((offOf v316) + 0)))
                                                        (callP (fun v586 =>
                                                          (cnd
                                                            (cnd
                                                              (callP (fun v587 =>
                                                                (cnd
                                                                  (Prog.call (callF En (runP En f) 108 [(Value.pointer (Option.some (Addr.mk x0 0 Option.none))), (Value.string (mkStr [40])), (Value.string (mkStr [59])), (Value.string (mkStr [41])), (lstV (elems v587))]) fun v588 =>
                                                                    (cnd
                                                                      (Prog.ret (Value.tuple ⟨[]⟩))
                                                                      Prog.fail
                                                                      ((isTupV v588) && (okNs [] (tupOf v588)))))
                                                                  Prog.fail
                                                                  (isLst v587)))
                                                                (loadT En 30 (blkOf v316) ((offOf v316) + 3)))
                                                              (callP (fun v589 =>
                                                                (cnd
                                                                  (cnd
                                                                    (callP (fun v590 =>
                                                                      (cnd
                                                                        (Prog.call (callF En (runP En f) 108 [(Value.pointer (Option.some (Addr.mk x0 0 Option.none))), (Value.string (mkStr [40])), (Value.string (mkStr [33])), (Value.string (mkStr [41])), (lstV (elems v590))]) fun v591 =>
                                                                          (cnd
                                                                            (Prog.ret (Value.tuple ⟨[]⟩))
                                                                            Prog.fail
                                                                            ((isTupV v591) && (okNs [] (tupOf v591)))))
                                                                        Prog.fail
                                                                        (isLst v590)))
                                                                      (loadT En 30 (blkOf v316) ((offOf v316) + 3)))
                                                                    (callP (fun v592 =>
                                                                      (cnd
                                                                        (cnd
                                                                          (callP (fun v593 =>
                                                                            (cnd
                                                                              (Prog.call (callF En (runP En f) 109 [(Value.pointer (Option.some (Addr.mk x0 0 Option.none))), (Value.agg ⟨((Value.int IntKind.i64 (intOf (at_ (aggOf v593) 0))) :: ((lstV (elems (at_ (aggOf v593) 1))) :: ((lstV (elems (at_ (aggOf v593) 2))) :: ((lstV (elems (at_ (aggOf v593) 3))) :: []))))⟩)]) fun v594 =>
                                                                                (cnd
                                                                                  (Prog.ret (Value.tuple ⟨[]⟩))
                                                                                  Prog.fail
                                                                                  ((isTupV v594) && (okNs [] (tupOf v594)))))
                                                                              Prog.fail
                                                                              ((isAggV v593) && (okKs ((Kd.int IntKind.i64) :: (Kd.lst :: (Kd.lst :: (Kd.lst :: [])))) (aggOf v593)))))
                                                                            (loadT En 32 (blkOf v316) (offOf v316)))
                                                                          (callP (fun v595 =>
                                                                            (cnd
                                                                              (cnd
                                                                                (callP (fun v596 =>
                                                                                  (cnd
                                                                                    (cnd
                                                                                      (cnd
                                                                                        (cnd
                                                                                          (Prog.call (callF En (runP En f) 78 [(Value.pointer (Option.some (Addr.mk x0 0 Option.none))), (Value.string (strOf (List.headD (Array.toList (Value.cells (at_ (elems v596) 0))) (Value.tuple ⟨[]⟩))))]) fun v597 =>
                                                                                            (cnd
                                                                                              (Prog.ret (Value.tuple ⟨[]⟩))
                                                                                              Prog.fail
                                                                                              ((isTupV v597) && (okNs ((Nm.one (Kd.int IntKind.i64)) :: ((Nm.one Kd.raw) :: [])) (tupOf v597)))))
                                                                                          Prog.fail
                                                                                          (okK Kd.str (List.headD (Array.toList (Value.cells (at_ (elems v596) 0))) (Value.tuple ⟨[]⟩))))
                                                                                        Prog.fail
                                                                                        (Nat.ble 1 (List.length (Array.toList (Value.cells (at_ (elems v596) 0))))))
                                                                                      Prog.fail
                                                                                      (((Nat.ble 1 (List.length (elems v596))) && Bool.true) && (hdOk 1 (elems v596))))
                                                                                    Prog.fail
                                                                                    (isLst v596)))
                                                                                  (loadT En 29 (blkOf v316) ((offOf v316) + 2)))
                                                                                (Prog.call (callF En (runP En f) 78 [(Value.pointer (Option.some (Addr.mk x0 0 Option.none))), (Value.string (mkStr [58, 58]))]) fun v598 =>
                                                                                  (cnd
                                                                                    (Prog.ret (Value.tuple ⟨[]⟩))
                                                                                    Prog.fail
                                                                                    ((isTupV v598) && (okNs ((Nm.one (Kd.int IntKind.i64)) :: ((Nm.one Kd.raw) :: [])) (tupOf v598)))))
                                                                                (decide ((intOf v595) = (100 : Int))))
                                                                              Prog.fail
                                                                              (okK (Kd.int IntKind.i64) v595)))
                                                                            (loadT En 3 (blkOf v316) ((offOf v316) + 0)))
                                                                          (decide ((intOf v592) = (98 : Int))))
                                                                        Prog.fail
                                                                        (okK (Kd.int IntKind.i64) v592)))
                                                                      (loadT En 3 (blkOf v316) ((offOf v316) + 0)))
                                                                    (decide ((intOf v589) = (99 : Int))))
                                                                  Prog.fail
                                                                  (okK (Kd.int IntKind.i64) v589)))
                                                                (loadT En 3 (blkOf v316) ((offOf v316) + 0)))
                                                              (decide ((intOf v586) = (0 : Int))))
                                                            Prog.fail
                                                            (okK (Kd.int IntKind.i64) v586)))
                                                          (loadT En 3 (blkOf v316) ((offOf v316) + 0)))
                                                        (decide ((intOf v569) ≥ (1 : Int))))
                                                      Prog.fail
                                                      (okK (Kd.int IntKind.i64) v569)))
                                                    (loadT En 3 (blkOf v316) ((offOf v316) + 0)))
                                                  (decide ((intOf v530) ≤ (5 : Int))))
                                                Prog.fail
                                                (okK (Kd.int IntKind.i64) v530)))
                                              (loadT En 3 (blkOf v316) ((offOf v316) + 0)))
                                            (callP (fun v599 =>
                                              (cnd
                                                (cnd
                                                  (callP (fun v600 =>
                                                    (cnd
                                                      (cnd
                                                        (callP (fun v601 =>
                                                          (cnd
                                                            (Prog.call (callF En (runP En f) 107 [(Value.pointer (Option.some (Addr.mk x0 0 Option.none))), (Value.agg ⟨((Value.int IntKind.i64 (intOf (at_ (aggOf v601) 0))) :: ((lstV (elems (at_ (aggOf v601) 1))) :: ((lstV (elems (at_ (aggOf v601) 2))) :: ((lstV (elems (at_ (aggOf v601) 3))) :: []))))⟩)]) fun v602 =>
                                                              (cnd
                                                                (Prog.ret (Value.tuple ⟨[]⟩))
                                                                Prog.fail
                                                                ((isTupV v602) && (okNs [] (tupOf v602)))))
                                                            Prog.fail
                                                            ((isAggV v601) && (okKs ((Kd.int IntKind.i64) :: (Kd.lst :: (Kd.lst :: (Kd.lst :: [])))) (aggOf v601)))))
                                                          (loadT En 32 (blkOf v316) (offOf v316)))
                                                        (callP (fun v603 =>
                                                          (cnd
                                                            (cnd
                                                              (callP (fun v604 =>
                                                                (cnd
                                                                  (Prog.call (callF En (runP En f) 108 [(Value.pointer (Option.some (Addr.mk x0 0 Option.none))), (Value.string (mkStr [40])), (Value.string (mkStr [59])), (Value.string (mkStr [41])), (lstV (elems v604))]) fun v605 =>
                                                                    (cnd
                                                                      (Prog.ret (Value.tuple ⟨[]⟩))
                                                                      Prog.fail
                                                                      ((isTupV v605) && (okNs [] (tupOf v605)))))
                                                                  Prog.fail
                                                                  (isLst v604)))
                                                                (loadT En 30 (blkOf v316) ((offOf v316) + 3)))
                                                              (callP (fun v606 =>
                                                                (cnd
                                                                  (cnd
                                                                    (callP (fun v607 =>
                                                                      (cnd
                                                                        (Prog.call (callF En (runP En f) 108 [(Value.pointer (Option.some (Addr.mk x0 0 Option.none))), (Value.string (mkStr [40])), (Value.string (mkStr [33])), (Value.string (mkStr [41])), (lstV (elems v607))]) fun v608 =>
                                                                          (cnd
                                                                            (Prog.ret (Value.tuple ⟨[]⟩))
                                                                            Prog.fail
                                                                            ((isTupV v608) && (okNs [] (tupOf v608)))))
                                                                        Prog.fail
                                                                        (isLst v607)))
                                                                      (loadT En 30 (blkOf v316) ((offOf v316) + 3)))
                                                                    (callP (fun v609 =>
                                                                      (cnd
                                                                        (cnd
                                                                          (callP (fun v610 =>
                                                                            (cnd
                                                                              (Prog.call (callF En (runP En f) 109 [(Value.pointer (Option.some (Addr.mk x0 0 Option.none))), (Value.agg ⟨((Value.int IntKind.i64 (intOf (at_ (aggOf v610) 0))) :: ((lstV (elems (at_ (aggOf v610) 1))) :: ((lstV (elems (at_ (aggOf v610) 2))) :: ((lstV (elems (at_ (aggOf v610) 3))) :: []))))⟩)]) fun v611 =>
                                                                                (cnd
                                                                                  (Prog.ret (Value.tuple ⟨[]⟩))
                                                                                  Prog.fail
                                                                                  ((isTupV v611) && (okNs [] (tupOf v611)))))
                                                                              Prog.fail
                                                                              ((isAggV v610) && (okKs ((Kd.int IntKind.i64) :: (Kd.lst :: (Kd.lst :: (Kd.lst :: [])))) (aggOf v610)))))
                                                                            (loadT En 32 (blkOf v316) (offOf v316)))
                                                                          (callP (fun v612 =>
                                                                            (cnd
                                                                              (cnd
                                                                                (callP (fun v613 =>
                                                                                  (cnd
                                                                                    (cnd
                                                                                      (cnd
                                                                                        (cnd
                                                                                          (Prog.call (callF En (runP En f) 78 [(Value.pointer (Option.some (Addr.mk x0 0 Option.none))), (Value.string (strOf (List.headD (Array.toList (Value.cells (at_ (elems v613) 0))) (Value.tuple ⟨[]⟩))))]) fun v614 =>
                                                                                            (cnd
                                                                                              (Prog.ret (Value.tuple ⟨[]⟩))
                                                                                              Prog.fail
                                                                                              ((isTupV v614) && (okNs ((Nm.one (Kd.int IntKind.i64)) :: ((Nm.one Kd.raw) :: [])) (tupOf v614)))))
                                                                                          Prog.fail
                                                                                          (okK Kd.str (List.headD (Array.toList (Value.cells (at_ (elems v613) 0))) (Value.tuple ⟨[]⟩))))
                                                                                        Prog.fail
                                                                                        (Nat.ble 1 (List.length (Array.toList (Value.cells (at_ (elems v613) 0))))))
                                                                                      Prog.fail
                                                                                      (((Nat.ble 1 (List.length (elems v613))) && Bool.true) && (hdOk 1 (elems v613))))
                                                                                    Prog.fail
                                                                                    (isLst v613)))
                                                                                  (loadT En 29 (blkOf v316) ((offOf v316) + 2)))
                                                                                (Prog.call (callF En (runP En f) 78 [(Value.pointer (Option.some (Addr.mk x0 0 Option.none))), (Value.string (mkStr [58, 58]))]) fun v615 =>
                                                                                  (cnd
                                                                                    (Prog.ret (Value.tuple ⟨[]⟩))
                                                                                    Prog.fail
                                                                                    ((isTupV v615) && (okNs ((Nm.one (Kd.int IntKind.i64)) :: ((Nm.one Kd.raw) :: [])) (tupOf v615)))))
                                                                                (decide ((intOf v612) = (100 : Int))))
                                                                              Prog.fail
                                                                              (okK (Kd.int IntKind.i64) v612)))
                                                                            (loadT En 3 (blkOf v316) ((offOf v316) + 0)))
                                                                          (decide ((intOf v609) = (98 : Int))))
                                                                        Prog.fail
                                                                        (okK (Kd.int IntKind.i64) v609)))
                                                                      (loadT En 3 (blkOf v316) ((offOf v316) + 0)))
                                                                    (decide ((intOf v606) = (99 : Int))))
                                                                  Prog.fail
                                                                  (okK (Kd.int IntKind.i64) v606)))
                                                                (loadT En 3 (blkOf v316) ((offOf v316) + 0)))
                                                              (decide ((intOf v603) = (0 : Int))))
                                                            Prog.fail
                                                            (okK (Kd.int IntKind.i64) v603)))
                                                          (loadT En 3 (blkOf v316) ((offOf v316) + 0)))
                                                        (decide ((intOf v600) ≤ (5 : Int))))
                                                      Prog.fail
                                                      (okK (Kd.int IntKind.i64) v600)))
                                                    (loadT En 3 (blkOf v316) ((offOf v316) + 0)))
                                                  (callP (fun v616 =>
                                                    (cnd
                                                      (cnd
                                                        (callP (fun v617 =>
                                                          (cnd
                                                            (Prog.call (callF En (runP En f) 108 [(Value.pointer (Option.some (Addr.mk x0 0 Option.none))), (Value.string (mkStr [40])), (Value.string (mkStr [59])), (Value.string (mkStr [41])), (lstV (elems v617))]) fun v618 =>
                                                              (cnd
                                                                (Prog.ret (Value.tuple ⟨[]⟩))
                                                                Prog.fail
                                                                ((isTupV v618) && (okNs [] (tupOf v618)))))
                                                            Prog.fail
                                                            (isLst v617)))
                                                          (loadT En 30 (blkOf v316) ((offOf v316) + 3)))
                                                        (callP (fun v619 =>
                                                          (cnd
                                                            (cnd
                                                              (callP (fun v620 =>
                                                                (cnd
                                                                  (Prog.call (callF En (runP En f) 108 [(Value.pointer (Option.some (Addr.mk x0 0 Option.none))), (Value.string (mkStr [40])), (Value.string (mkStr [33])), (Value.string (mkStr [41])), (lstV (elems v620))]) fun v621 =>
                                                                    (cnd
                                                                      (Prog.ret (Value.tuple ⟨[]⟩))
                                                                      Prog.fail
                                                                      ((isTupV v621) && (okNs [] (tupOf v621)))))
                                                                  Prog.fail
                                                                  (isLst v620)))
                                                                (loadT En 30 (blkOf v316) ((offOf v316) + 3)))
                                                              (callP (fun v622 =>
                                                                (cnd
                                                                  (cnd
                                                                    (callP (fun v623 =>
                                                                      (cnd
                                                                        (Prog.call (callF En (runP En f) 109 [(Value.pointer (Option.some (Addr.mk x0 0 Option.none))), (Value.agg ⟨((Value.int IntKind.i64 (intOf (at_ (aggOf v623) 0))) :: ((lstV (elems (at_ (aggOf v623) 1))) :: ((lstV (elems (at_ (aggOf v623) 2))) :: ((lstV (elems (at_ (aggOf v623) 3))) :: []))))⟩)]) fun v624 =>
                                                                          (cnd
                                                                            (Prog.ret (Value.tuple ⟨[]⟩))
                                                                            Prog.fail
                                                                            ((isTupV v624) && (okNs [] (tupOf v624)))))
                                                                        Prog.fail
                                                                        ((isAggV v623) && (okKs ((Kd.int IntKind.i64) :: (Kd.lst :: (Kd.lst :: (Kd.lst :: [])))) (aggOf v623)))))
                                                                      (loadT En 32 (blkOf v316) (offOf v316)))
                                                                    (callP (fun v625 =>
                                                                      (cnd
                                                                        (cnd
                                                                          (callP (fun v626 =>
                                                                            (cnd
                                                                              (cnd
                                                                                (cnd
                                                                                  (cnd
                                                                                    (Prog.call (callF En (runP En f) 78 [(Value.pointer (Option.some (Addr.mk x0 0 Option.none))), (Value.string (strOf (List.headD (Array.toList (Value.cells (at_ (elems v626) 0))) (Value.tuple ⟨[]⟩))))]) fun v627 =>
                                                                                      (cnd
                                                                                        (Prog.ret (Value.tuple ⟨[]⟩))
                                                                                        Prog.fail
                                                                                        ((isTupV v627) && (okNs ((Nm.one (Kd.int IntKind.i64)) :: ((Nm.one Kd.raw) :: [])) (tupOf v627)))))
                                                                                    Prog.fail
                                                                                    (okK Kd.str (List.headD (Array.toList (Value.cells (at_ (elems v626) 0))) (Value.tuple ⟨[]⟩))))
                                                                                  Prog.fail
                                                                                  (Nat.ble 1 (List.length (Array.toList (Value.cells (at_ (elems v626) 0))))))
                                                                                Prog.fail
                                                                                (((Nat.ble 1 (List.length (elems v626))) && Bool.true) && (hdOk 1 (elems v626))))
                                                                              Prog.fail
                                                                              (isLst v626)))
                                                                            (loadT En 29 (blkOf v316) ((offOf v316) + 2)))
                                                                          (Prog.call (callF En (runP En f) 78 [(Value.pointer (Option.some (Addr.mk x0 0 Option.none))), (Value.string (mkStr [58, 58]))]) fun v628 =>
                                                                            (cnd
                                                                              (Prog.ret (Value.tuple ⟨[]⟩))
                                                                              Prog.fail
                                                                              ((isTupV v628) && (okNs ((Nm.one (Kd.int IntKind.i64)) :: ((Nm.one Kd.raw) :: [])) (tupOf v628)))))
                                                                          (decide ((intOf v625) = (100 : Int))))
                                                                        Prog.fail
                                                                        (okK (Kd.int IntKind.i64) v625)))
                                                                      (loadT En 3 (blkOf v316) ((offOf v316) + 0)))
                                                                    (decide ((intOf v622) = (98 : Int))))
                                                                  Prog.fail
                                                                  (okK (Kd.int IntKind.i64) v622)))
                                                                (loadT En 3 (blkOf v316) ((offOf v316) + 0)))
                                                              (decide ((intOf v619) = (99 : Int))))
                                                            Prog.fail
                                                            (okK (Kd.int IntKind.i64) v619)))
                                                          (loadT En 3 (blkOf v316) ((offOf v316) + 0)))
                                                        (decide ((intOf v616) = (0 : Int))))
                                                      Prog.fail
                                                      (okK (Kd.int IntKind.i64) v616)))
                                                    (loadT En 3 (blkOf v316) ((offOf v316) + 0)))
                                                  (decide ((intOf v599) ≥ (1 : Int))))
                                                Prog.fail
                                                (okK (Kd.int IntKind.i64) v599)))
                                              (loadT En 3 (blkOf v316) ((offOf v316) + 0)))
                                            (decide ((intOf v529) ≥ (0 : Int))))
                                          Prog.fail
                                          (okK (Kd.int IntKind.i64) v529)))
                                        (loadT En 3 (blkOf v316) ((offOf v316) + 0)))
                                      (decide ((intOf v324) ≥ (1 : Int))))
                                    Prog.fail
                                    (okK (Kd.int IntKind.i64) v324)))
                                  (loadT En 3 (blkOf v316) ((offOf v316) + 0)))
                                (boolOf v321))
                              Prog.fail
                              (okK Kd.bool v321)))
                          Prog.fail
                          ((isAggV v320) && (okKs ((Kd.int IntKind.i64) :: (Kd.lst :: (Kd.lst :: (Kd.lst :: [])))) (aggOf v320)))))
                        (loadT En 32 (blkOf v316) (offOf v316)))
                      Prog.fail
                      (okK (Kd.int IntKind.i64) v319)))
                  Prog.fail
                  ((isAggV v318) && (okKs ((Kd.int IntKind.i64) :: (Kd.lst :: (Kd.lst :: (Kd.lst :: [])))) (aggOf v318)))))
                (loadT En 32 (blkOf v316) (offOf v316)))
              (decide ((intOf v317) > (65536 : Int))))
            Prog.fail
            (okK (Kd.int IntKind.i64) v317)))
        Prog.fail
        (isPt v316)))
      (Prog.newH (Hdr.mk 4 32 Bool.false Bool.true Bool.true 0 Bool.false Bool.false []) ((Value.int IntKind.i64 x1_0) :: ((lstV x1_1) :: ((lstV x1_2) :: ((lstV x1_3) :: [])))) (fun z315 => (Prog.ret (itP z315)))))) := by kernel_rfl
end Go.Proofs.YtmjbmbmnnephjaaGreatDoor
