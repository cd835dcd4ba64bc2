import Derived.Test.YtfklggpopffkjaaJ24
import Derived.Test.YtfklggpopffkjaaProg
import Derived.KernelRfl
set_option linter.unusedVariables false
set_option linter.unusedSimpArgs false
namespace Go.Proofs.YtfklggpopffkjaaK
open Go.RowKit
def wFnExactWorldNew : Nat := 3
def sWorldNew : Nat := 7
def iWorldNew : Nat := 8
def weqWorld : Nat := 9
def wmarkWorld : Nat := 10
def wheldWorld : Nat := 11
def sl1In : Nat := 38
def sSrvNew : Nat := 39
def iin : Nat := 40
def iSrvNew : Nat := 41
def weqSrv : Nat := 29
def weqWireS : Nat := 42
def weqByteSS : Nat := 43
def weqByteS : Nat := 44
def wmarkSrv : Nat := 45
def wmarkWireS : Nat := 46
def wmarkByteSS : Nat := 47
def wmarkByteS : Nat := 48
def wheldSrv : Nat := 49
def wheldWireS : Nat := 50
def wheldByteSS : Nat := 51
def wheldByteS : Nat := 52
def weqResS : Nat := 81
def weqLockS : Nat := 82
def weqIntS : Nat := 83
def weqWire : Nat := 100
def wmarkResS : Nat := 101
def wmarkLockS : Nat := 102
def wmarkIntS : Nat := 103
def wheldResS : Nat := 104
def wheldLockS : Nat := 105
def wheldIntS : Nat := 106
def weqRes : Nat := 127
def weqLock : Nat := 128
def wmarkPropS : Nat := 22
def wmarkStringS : Nat := 65
def wmarkText : Nat := 66
def wheldStringS : Nat := 149
def wheldPropS : Nat := 150
def weqPropS : Nat := 20
def weqStringS : Nat := 114
def weqProp : Nat := 64
abbrev TProp : T := .pr .str (.pr .str .str)
abbrev TRes : T := .pr (.sl .str) (.pr .bool (.pr .str (.pr (.int .i64) (.sl TProp))))
abbrev TLock : T := .pr (.int .i64) (.pr (.sl .str) (.pr .bool (.pr .bool (.int .i64))))
abbrev TSrv : T := .pr (.sl TRes) (.pr (.sl TLock) (.pr (.int .i64) (.pr (.int .i64) (.pr (.sl (.int .i64)) (.sl (.int .i64))))))
abbrev TWire : T := .pr (.sl .u8) (.int .i64)
abbrev TWorld : T := .pr TSrv (.pr (.sl TWire) (.pr (.sl (.sl .u8)) (.pr (.sl (.sl .u8)) (.pr (.sl .u8) (.int .i64)))))
def wFnExactWorldNew_m : Fn := ⟨1, [.t 2], false,
  .seq (.r [.mv 2 (.c (.d (.b false))),
    .kill [2]])
  (.seq (.r [.mv 8 (.t 0),
    .call 9 false [] (.c (.clo sWorldNew [])) [(.t 8)],
    .al 3 TWorld false,
    .st 11 (.t 3) (.t 9),
    .kill [8, 9],
    .drop [10064, 10065, 10068, 10069, 10070, 10071, 10072, 10073]])
  (.seq (.r [.mv 10 (.t 0),
    .call 11 false [] (.c (.clo iWorldNew [])) [(.t 10)],
    .al 4 TWorld false,
    .stl 11 (.t 4) (.t 11),
    .kill [10, 11]])
  (.seq (.seq (.r [.ld 12 11 true (.t 4),
    .ld 13 11 true (.t 3),
    .call 14 true [] (.c (.clo weqWorld [])) [(.t 12), (.t 13)],
    .not 15 (.t 14),
    .kill [12, 13, 14]])
  (.cond (.t 15)
    (.pre [.keep [], .drop [67, 68, 12064, 12065, 12068, 12069, 12070, 12071, 12072, 12073]] (.seq (.r [.mv 2 (.c (.d (.b false)))])
    (.ret)))
    (.pre [.kill [15]] (.skip))))
  (.seq (.r [.mv 5 (.c (.d (.i .i64 1)))])
  (.seq (.r [.ld 16 11 true (.t 4),
    .mv 17 (.t 5),
    .call 18 true [12064, 12065, 12068, 12069, 12070, 12071, 12072, 12073] (.c (.clo wmarkWorld [])) [(.t 16), (.t 17)],
    .mv 5 (.t 18),
    .kill [16, 17, 18]])
  (.seq (.r [.mv 6 (.c (.d (.i .i64 1)))])
  (.seq (.r [.ld 19 11 true (.t 4),
    .mv 20 (.t 6),
    .call 21 true [] (.c (.clo wheldWorld [])) [(.t 19), (.t 20)],
    .mv 6 (.t 21),
    .kill [19, 20, 21]])
  (.seq (.seq (.r [.mv 22 (.t 6),
    .bin 23 .lss .num (.t 22) (.c (.d (.i .i64 0))),
    .kill [22]])
  (.cond (.t 23)
    (.pre [.keep [], .drop [67, 68, 12064, 12065, 12068, 12069, 12070, 12071, 12072, 12073]] (.seq (.r [.mv 2 (.c (.d (.b false)))])
    (.ret)))
    (.pre [.kill [23]] (.skip))))
  (.seq (.seq (.r [.mv 24 (.t 6),
    .mv 25 (.t 5),
    .bin 26 .neq .num (.t 24) (.t 25),
    .kill [6, 24, 25]])
  (.cond (.t 26)
    (.pre [.keep [], .drop [67, 68, 12064, 12065, 12068, 12069, 12070, 12071, 12072, 12073]] (.seq (.r [.mv 2 (.c (.d (.b false)))])
    (.ret)))
    (.pre [.kill [26]] (.skip))))
  (.seq (.r [.mv 27 (.t 0),
    .call 28 false [] (.c (.clo iWorldNew [])) [(.t 27)],
    .al 7 TWorld false,
    .st 11 (.t 7) (.t 28),
    .kill [0, 27, 28],
    .drop [29064, 29065, 29068, 29069, 29070, 29071, 29072, 29073]])
  (.seq (.seq (.r [.ld 29 11 true (.t 7),
    .ld 30 11 true (.t 3),
    .call 31 true [] (.c (.clo weqWorld [])) [(.t 29), (.t 30)],
    .not 32 (.t 31),
    .keep [32, 5, 4],
    .drop [67, 71]])
  (.cond (.t 32)
    (.pre [.keep [], .drop [68, 12064, 12065, 12068, 12069, 12070, 12071, 12072, 12073]] (.seq (.r [.mv 2 (.c (.d (.b false)))])
    (.ret)))
    (.pre [.kill [32]] (.skip))))
  (.seq (.r [.mv 6 (.c (.d (.i .i64 1)))])
  (.seq (.r [.ld 33 11 true (.t 4),
    .mv 34 (.t 6),
    .call 35 true [] (.c (.clo wheldWorld [])) [(.t 33), (.t 34)],
    .mv 6 (.t 35),
    .keep [6, 5],
    .drop [68, 12064, 12065, 12068, 12069, 12070, 12071, 12072, 12073]])
  (.seq (.seq (.r [.mv 36 (.t 6),
    .bin 37 .lss .num (.t 36) (.c (.d (.i .i64 0))),
    .kill [36]])
  (.cond (.t 37)
    (.pre [.keep []] (.seq (.r [.mv 2 (.c (.d (.b false)))])
    (.ret)))
    (.pre [.kill [37]] (.skip))))
  (.seq (.seq (.r [.mv 38 (.t 6),
    .mv 39 (.t 5),
    .bin 40 .neq .num (.t 38) (.t 39),
    .keep [40]])
  (.cond (.t 40)
    (.pre [.keep []] (.seq (.r [.mv 2 (.c (.d (.b false)))])
    (.ret)))
    (.pre [.keep []] (.skip))))
  (.seq (.r [.mv 2 (.c (.d (.b true)))])
  (.ret)))))))))))))))))⟩
/-- live: [0, 2, 3, 4]; objects: [66, 67] -/
def sWorldNew_l0 : C :=
  .seq (.seq (.r [.mv 11 (.t 4),
      .mv 12 (.t 0),
      .bin 13 .lss .num (.t 11) (.t 12),
      .kill [11, 12]])
    (.cond (.t 13)
      (.pre [.kill [13]] (.skip))
      (.pre [.keep [3, 2]] (.ex 0))))
    (.seq (.blk 1 (.seq (.r [.fa 16 (.t 3) 6,
      .ldm 17 (.t 16),
      .bd 18 [.nil .u8, .d (.i .i64 0)] [],
      .bs 19 TWire false 1 [.nil .u8, .d (.i .i64 0)] [(0, (.t 18))],
      .app 20 TWire false 32 (.t 17) (.t 19),
      .fa 21 (.t 3) 6,
      .st 1 (.t 21) (.t 20),
      .keep [4, 3, 2, 0],
      .drop [81, 83, 84]])
    (.seq (.r [.fa 22 (.t 3) 7,
      .ldm 23 (.t 22),
      .bs 24 .u8 false 0 [.d (.u 0)] [],
      .bs 25 (.sl .u8) false 1 [.nil .u8] [(0, (.t 24))],
      .app 26 (.sl .u8) false 24 (.t 23) (.t 25),
      .fa 27 (.t 3) 7,
      .st 1 (.t 27) (.t 26),
      .keep [4, 3, 2, 0],
      .drop [87, 88, 89, 90]])
    (.r [.fa 28 (.t 3) 8,
      .ldm 29 (.t 28),
      .bs 30 .u8 false 0 [.d (.u 0)] [],
      .bs 31 (.sl .u8) false 1 [.nil .u8] [(0, (.t 30))],
      .app 32 (.sl .u8) false 24 (.t 29) (.t 31),
      .fa 33 (.t 3) 8,
      .st 1 (.t 33) (.t 32),
      .keep [4, 3, 2, 0],
      .drop [93, 94, 95, 96]]))))
    (.r [.mv 14 (.t 4),
      .bin 15 .add .num (.t 14) (.c (.d (.i .i64 1))),
      .mv 4 (.t 15),
      .kill [14, 15]]))
def sWorldNew_m : Fn := ⟨1, [.cell 2 11 true], false,
  .seq (.r [.al 2 TWorld false])
  (.seq (.seq (.r [.mv 5 (.t 0),
    .call 6 true [] (.c (.clo sl1In [])) [(.t 5), (.c (.d (.i .i64 1))), (.c (.d (.i .i64 4)))],
    .not 7 (.t 6),
    .kill [5, 6]])
  (.cond (.t 7)
    (.pre [.keep [2]] (.seq (.r [.bd 8 [.nil TRes, .nil TLock, .d (.i .i64 0), .d (.i .i64 0), .nil (.int .i64), .nil (.int .i64), .nil TWire, .nil (.sl .u8), .nil (.sl .u8), .nil .u8, .d (.i .i64 0)] [],
      .st 11 (.t 2) (.t 8),
      .kill [8]])
    (.ret)))
    (.pre [.kill [7]] (.skip))))
  (.seq (.r [.call 9 false [] (.c (.clo sSrvNew [])) [],
    .bd 10 [.nil TRes, .nil TLock, .d (.i .i64 0), .d (.i .i64 0), .nil (.int .i64), .nil (.int .i64), .nil TWire, .nil (.sl .u8), .nil (.sl .u8), .nil .u8, .d (.i .i64 0)] [(0, 6, (.t 9))],
    .al 3 TWorld false,
    .st 11 (.t 3) (.t 10),
    .kill [9, 10],
    .drop [10064, 10065, 10068, 10069]])
  (.seq (.seq (.r [.mv 4 (.c (.d (.i .i64 0)))])
  (.blk 0 (.pre [.keep [4, 3, 2, 0]] (.loop sWorldNew_l0))))
  (.seq (.r [.ldt 34 11 true (.t 3),
    .st 11 (.t 2) (.t 34),
    .keep [2],
    .drop [67, 35064, 35065, 35068, 35069, 35070, 35071, 35072, 35073]])
  (.ret)))))⟩
def iWorldNew_m : Fn := ⟨1, [.cell 2 11 true], false,
  .seq (.r [.al 2 TWorld false])
  (.seq (.seq (.r [.mv 3 (.t 0),
    .call 4 true [] (.c (.clo iin [])) [(.t 3), (.c (.d (.i .i64 1))), (.c (.d (.i .i64 4)))],
    .not 5 (.t 4),
    .kill [3, 4]])
  (.cond (.t 5)
    (.pre [.keep [2]] (.seq (.r [.bd 6 [.nil TRes, .nil TLock, .d (.i .i64 0), .d (.i .i64 0), .nil (.int .i64), .nil (.int .i64), .nil TWire, .nil (.sl .u8), .nil (.sl .u8), .nil .u8, .d (.i .i64 0)] [],
      .st 11 (.t 2) (.t 6),
      .kill [6]])
    (.ret)))
    (.pre [.kill [5]] (.skip))))
  (.seq (.post (.r [.an [73, 75, 77] [] [8064] [] (.call 7 false [] (.c (.clo iSrvNew [])) []),
    .an [75, 77, 8064] [] [] [] (.mv 8 (.t 0)),
    .an [75, 77, 8064] [] [73] [] (.mk 9 TWire 32 (.t 8)),
    .an [73, 77, 8064] [] [] [] (.mv 10 (.t 0)),
    .an [73, 77, 8064] [] [75] [] (.mk 11 (.sl .u8) 24 (.t 10)),
    .an [73, 75, 8064] [] [] [] (.mv 12 (.t 0)),
    .an [73, 75, 8064] [] [77] [] (.mk 13 (.sl .u8) 24 (.t 12)),
    .bd 14 [.nil TRes, .nil TLock, .d (.i .i64 0), .d (.i .i64 0), .nil (.int .i64), .nil (.int .i64), .nil TWire, .nil (.sl .u8), .nil (.sl .u8), .nil .u8, .d (.i .i64 0)] [(0, 6, (.t 7)), (6, 1, (.t 9)), (7, 1, (.t 11)), (8, 1, (.t 13))],
    .an [] [] [73, 75, 77, 8064] [66] (.st 11 (.t 2) (.t 14))]) [.keep [2], .drop [73, 75, 77, 8064, 8065, 8068, 8069]])
  (.ret)))⟩
def weqWorld_m : Fn := ⟨2, [.t 4], false,
  .seq (.r [.bx 2 TWorld true (.t 0),
    .bx 3 TWorld true (.t 1),
    .mv 4 (.c (.d (.b false))),
    .keep [3, 2]])
  (.seq (.seq (.r [.fa 5 (.t 2) 0,
    .ld 6 6 true (.t 5),
    .fa 7 (.t 3) 0,
    .ld 8 6 true (.t 7),
    .call 9 true [] (.c (.clo weqSrv [])) [(.t 6), (.t 8)],
    .not 10 (.t 9),
    .keep [10, 3, 2]])
  (.cond (.t 10)
    (.pre [.keep [], .drop [66, 67]] (.seq (.r [.mv 4 (.c (.d (.b false)))])
    (.ret)))
    (.pre [.kill [10]] (.skip))))
  (.seq (.seq (.r [.fa 11 (.t 2) 6,
    .ld 12 1 false (.t 11),
    .fa 13 (.t 3) 6,
    .ld 14 1 false (.t 13),
    .call 15 true [] (.c (.clo weqWireS [])) [(.t 12), (.t 14)],
    .not 16 (.t 15),
    .keep [16, 3, 2]])
  (.cond (.t 16)
    (.pre [.keep [], .drop [66, 67]] (.seq (.r [.mv 4 (.c (.d (.b false)))])
    (.ret)))
    (.pre [.kill [16]] (.skip))))
  (.seq (.seq (.r [.fa 17 (.t 2) 7,
    .ld 18 1 false (.t 17),
    .fa 19 (.t 3) 7,
    .ld 20 1 false (.t 19),
    .call 21 true [] (.c (.clo weqByteSS [])) [(.t 18), (.t 20)],
    .not 22 (.t 21),
    .keep [22, 3, 2]])
  (.cond (.t 22)
    (.pre [.keep [], .drop [66, 67]] (.seq (.r [.mv 4 (.c (.d (.b false)))])
    (.ret)))
    (.pre [.kill [22]] (.skip))))
  (.seq (.seq (.r [.fa 23 (.t 2) 8,
    .ld 24 1 false (.t 23),
    .fa 25 (.t 3) 8,
    .ld 26 1 false (.t 25),
    .call 27 true [] (.c (.clo weqByteSS [])) [(.t 24), (.t 26)],
    .not 28 (.t 27),
    .keep [28, 3, 2]])
  (.cond (.t 28)
    (.pre [.keep [], .drop [66, 67]] (.seq (.r [.mv 4 (.c (.d (.b false)))])
    (.ret)))
    (.pre [.kill [28]] (.skip))))
  (.seq (.seq (.r [.fa 29 (.t 2) 9,
    .ld 30 1 false (.t 29),
    .fa 31 (.t 3) 9,
    .ld 32 1 false (.t 31),
    .call 33 true [] (.c (.clo weqByteS [])) [(.t 30), (.t 32)],
    .not 34 (.t 33),
    .keep [34, 3, 2]])
  (.cond (.t 34)
    (.pre [.keep [], .drop [66, 67]] (.seq (.r [.mv 4 (.c (.d (.b false)))])
    (.ret)))
    (.pre [.kill [34]] (.skip))))
  (.seq (.seq (.r [.fa 35 (.t 2) 10,
    .ld 36 1 false (.t 35),
    .fa 37 (.t 3) 10,
    .ld 38 1 false (.t 37),
    .bin 39 .neq .num (.t 36) (.t 38),
    .keep [39],
    .drop [66, 67]])
  (.cond (.t 39)
    (.pre [.keep []] (.seq (.r [.mv 4 (.c (.d (.b false)))])
    (.ret)))
    (.pre [.keep []] (.skip))))
  (.seq (.r [.mv 4 (.c (.d (.b true)))])
  (.ret))))))))⟩
def wmarkWorld_m : Fn := ⟨2, [.t 4], false,
  .seq (.r [.bxl 2 TWorld (.t 0),
    .mv 4 (.c (.d (.i .i64 0))),
    .kill [0, 4]])
  (.seq (.r [.fa 5 (.t 2) 0,
    .ld 6 6 true (.t 5),
    .mv 7 (.t 1),
    .call 8 true [0, 1, 2, 3] (.c (.clo wmarkSrv [])) [(.t 6), (.t 7)],
    .mv 1 (.t 8),
    .keep [2, 1]])
  (.seq (.r [.fa 9 (.t 2) 6,
    .ld 10 1 false (.t 9),
    .mv 11 (.t 1),
    .call 12 true [4] (.c (.clo wmarkWireS [])) [(.t 10), (.t 11)],
    .mv 1 (.t 12),
    .keep [2, 1]])
  (.seq (.r [.fa 13 (.t 2) 7,
    .ld 14 1 false (.t 13),
    .mv 15 (.t 1),
    .call 16 true [5] (.c (.clo wmarkByteSS [])) [(.t 14), (.t 15)],
    .mv 1 (.t 16),
    .keep [2, 1]])
  (.seq (.r [.fa 17 (.t 2) 8,
    .ld 18 1 false (.t 17),
    .mv 19 (.t 1),
    .call 20 true [6] (.c (.clo wmarkByteSS [])) [(.t 18), (.t 19)],
    .mv 1 (.t 20),
    .keep [2, 1]])
  (.seq (.r [.fa 21 (.t 2) 9,
    .ld 22 1 false (.t 21),
    .mv 23 (.t 1),
    .call 24 true [7] (.c (.clo wmarkByteS [])) [(.t 22), (.t 23)],
    .kill [1, 2, 21, 22, 23],
    .mv 1 (.t 24),
    .keep [1],
    .drop [66]])
  (.seq (.r [.mv 25 (.t 1),
    .mv 4 (.t 25),
    .keep [4]])
  (.ret)))))))⟩
def wheldWorld_m : Fn := ⟨2, [.t 4], false,
  .seq (.r [.bx 2 TWorld true (.t 0),
    .mv 4 (.c (.d (.i .i64 0))),
    .kill [0, 4]])
  (.seq (.r [.fa 5 (.t 2) 0,
    .ld 6 6 true (.t 5),
    .mv 7 (.t 1),
    .call 8 true [] (.c (.clo wheldSrv [])) [(.t 6), (.t 7)],
    .mv 1 (.t 8),
    .keep [2, 1]])
  (.seq (.seq (.r [.mv 9 (.t 1),
    .bin 10 .lss .num (.t 9) (.c (.d (.i .i64 0))),
    .kill [9]])
  (.cond (.t 10)
    (.pre [.keep [], .drop [66]] (.seq (.r [.mv 4 (.c (.d (.i .i64 (-1))))])
    (.ret)))
    (.pre [.kill [10]] (.skip))))
  (.seq (.r [.fa 11 (.t 2) 6,
    .ld 12 1 false (.t 11),
    .mv 13 (.t 1),
    .call 14 true [] (.c (.clo wheldWireS [])) [(.t 12), (.t 13)],
    .mv 1 (.t 14),
    .keep [2, 1]])
  (.seq (.seq (.r [.mv 15 (.t 1),
    .bin 16 .lss .num (.t 15) (.c (.d (.i .i64 0))),
    .kill [15]])
  (.cond (.t 16)
    (.pre [.keep [], .drop [66]] (.seq (.r [.mv 4 (.c (.d (.i .i64 (-1))))])
    (.ret)))
    (.pre [.kill [16]] (.skip))))
  (.seq (.r [.fa 17 (.t 2) 7,
    .ld 18 1 false (.t 17),
    .mv 19 (.t 1),
    .call 20 true [] (.c (.clo wheldByteSS [])) [(.t 18), (.t 19)],
    .mv 1 (.t 20),
    .keep [2, 1]])
  (.seq (.seq (.r [.mv 21 (.t 1),
    .bin 22 .lss .num (.t 21) (.c (.d (.i .i64 0))),
    .kill [21]])
  (.cond (.t 22)
    (.pre [.keep [], .drop [66]] (.seq (.r [.mv 4 (.c (.d (.i .i64 (-1))))])
    (.ret)))
    (.pre [.kill [22]] (.skip))))
  (.seq (.r [.fa 23 (.t 2) 8,
    .ld 24 1 false (.t 23),
    .mv 25 (.t 1),
    .call 26 true [] (.c (.clo wheldByteSS [])) [(.t 24), (.t 25)],
    .mv 1 (.t 26),
    .keep [2, 1]])
  (.seq (.seq (.r [.mv 27 (.t 1),
    .bin 28 .lss .num (.t 27) (.c (.d (.i .i64 0))),
    .kill [27]])
  (.cond (.t 28)
    (.pre [.keep [], .drop [66]] (.seq (.r [.mv 4 (.c (.d (.i .i64 (-1))))])
    (.ret)))
    (.pre [.kill [28]] (.skip))))
  (.seq (.r [.fa 29 (.t 2) 9,
    .ld 30 1 false (.t 29),
    .mv 31 (.t 1),
    .call 32 true [] (.c (.clo wheldByteS [])) [(.t 30), (.t 31)],
    .kill [1, 2, 29, 30, 31],
    .mv 1 (.t 32),
    .keep [1],
    .drop [66]])
  (.seq (.seq (.r [.mv 33 (.t 1),
    .bin 34 .lss .num (.t 33) (.c (.d (.i .i64 0))),
    .kill [33]])
  (.cond (.t 34)
    (.pre [.keep []] (.seq (.r [.mv 4 (.c (.d (.i .i64 (-1))))])
    (.ret)))
    (.pre [.kill [34]] (.skip))))
  (.seq (.r [.mv 35 (.t 1),
    .mv 4 (.t 35),
    .keep [4]])
  (.ret))))))))))))⟩
def sl1In_m : Fn := ⟨3, [.t 6], false,
  .seq (.r [.mv 6 (.c (.d (.b false))),
    .kill [6]])
  (.seq (.r [.mv 7 (.t 0),
    .mv 8 (.t 1),
    .bin 9 .geq .num (.t 7) (.t 8),
    .mv 10 (.t 9),
    .gd 10 true (some 11) (.mv 11 (.t 0)),
    .kill [0, 1, 7, 8, 9],
    .gd 10 true (some 12) (.mv 12 (.t 2)),
    .gd 10 true (some 13) (.bin 13 .leq .num (.t 11) (.t 12)),
    .pick 14 (.t 10) (.t 13) (.c (.d (.b false))),
    .kill [2, 10, 11, 12, 13],
    .mv 6 (.t 14),
    .keep [6]])
  (.ret))⟩
def sSrvNew_m : Fn := ⟨0, [.cell 0 6 true], false,
  .seq (.r [.al 0 TSrv false])
  (.seq (.r [.bd 1 [.nil TRes, .nil TLock, .d (.i .i64 0), .d (.i .i64 0), .nil (.int .i64), .nil (.int .i64)] [(3, 1, (.c (.d (.i .i64 1))))],
    .st 6 (.t 0) (.t 1),
    .kill [1]])
  (.ret))⟩
def iin_m : Fn := ⟨3, [.t 6], false,
  .seq (.r [.mv 6 (.c (.d (.b false))),
    .kill [6]])
  (.seq (.r [.mv 7 (.t 0),
    .mv 8 (.t 1),
    .bin 9 .geq .num (.t 7) (.t 8),
    .mv 10 (.t 9),
    .gd 10 true (some 11) (.mv 11 (.t 0)),
    .kill [0, 1, 7, 8, 9],
    .gd 10 true (some 12) (.mv 12 (.t 2)),
    .gd 10 true (some 13) (.bin 13 .leq .num (.t 11) (.t 12)),
    .pick 14 (.t 10) (.t 13) (.c (.d (.b false))),
    .kill [2, 10, 11, 12, 13],
    .mv 6 (.t 14),
    .keep [6]])
  (.ret))⟩
def iSrvNew_m : Fn := ⟨0, [.cell 0 6 true], false,
  .seq (.r [.al 0 TSrv false])
  (.seq (.r [.bd 1 [.nil TRes, .nil TLock, .d (.i .i64 0), .d (.i .i64 0), .nil (.int .i64), .nil (.int .i64)] [(3, 1, (.c (.d (.i .i64 1))))],
    .st 6 (.t 0) (.t 1),
    .kill [1]])
  (.ret))⟩
def weqSrv_m : Fn := ⟨2, [.t 4], false,
  .seq (.r [.bx 2 TSrv true (.t 0),
    .bx 3 TSrv true (.t 1),
    .mv 4 (.c (.d (.b false))),
    .keep [3, 2]])
  (.seq (.seq (.r [.fa 5 (.t 2) 0,
    .ld 6 1 false (.t 5),
    .fa 7 (.t 3) 0,
    .ld 8 1 false (.t 7),
    .call 9 true [] (.c (.clo weqResS [])) [(.t 6), (.t 8)],
    .not 10 (.t 9),
    .keep [10, 3, 2]])
  (.cond (.t 10)
    (.pre [.keep [], .drop [66, 67]] (.seq (.r [.mv 4 (.c (.d (.b false)))])
    (.ret)))
    (.pre [.kill [10]] (.skip))))
  (.seq (.seq (.r [.fa 11 (.t 2) 1,
    .ld 12 1 false (.t 11),
    .fa 13 (.t 3) 1,
    .ld 14 1 false (.t 13),
    .call 15 true [] (.c (.clo weqLockS [])) [(.t 12), (.t 14)],
    .not 16 (.t 15),
    .keep [16, 3, 2]])
  (.cond (.t 16)
    (.pre [.keep [], .drop [66, 67]] (.seq (.r [.mv 4 (.c (.d (.b false)))])
    (.ret)))
    (.pre [.kill [16]] (.skip))))
  (.seq (.seq (.r [.fa 17 (.t 2) 2,
    .ld 18 1 false (.t 17),
    .fa 19 (.t 3) 2,
    .ld 20 1 false (.t 19),
    .bin 21 .neq .num (.t 18) (.t 20),
    .keep [21, 3, 2]])
  (.cond (.t 21)
    (.pre [.keep [], .drop [66, 67]] (.seq (.r [.mv 4 (.c (.d (.b false)))])
    (.ret)))
    (.pre [.kill [21]] (.skip))))
  (.seq (.seq (.r [.fa 22 (.t 2) 3,
    .ld 23 1 false (.t 22),
    .fa 24 (.t 3) 3,
    .ld 25 1 false (.t 24),
    .bin 26 .neq .num (.t 23) (.t 25),
    .keep [26, 3, 2]])
  (.cond (.t 26)
    (.pre [.keep [], .drop [66, 67]] (.seq (.r [.mv 4 (.c (.d (.b false)))])
    (.ret)))
    (.pre [.kill [26]] (.skip))))
  (.seq (.seq (.r [.fa 27 (.t 2) 4,
    .ld 28 1 false (.t 27),
    .fa 29 (.t 3) 4,
    .ld 30 1 false (.t 29),
    .call 31 true [] (.c (.clo weqIntS [])) [(.t 28), (.t 30)],
    .not 32 (.t 31),
    .keep [32, 3, 2]])
  (.cond (.t 32)
    (.pre [.keep [], .drop [66, 67]] (.seq (.r [.mv 4 (.c (.d (.b false)))])
    (.ret)))
    (.pre [.kill [32]] (.skip))))
  (.seq (.seq (.r [.fa 33 (.t 2) 5,
    .ld 34 1 false (.t 33),
    .fa 35 (.t 3) 5,
    .ld 36 1 false (.t 35),
    .call 37 true [] (.c (.clo weqIntS [])) [(.t 34), (.t 36)],
    .kill [2, 3, 33, 34, 35, 36],
    .not 38 (.t 37),
    .keep [38],
    .drop [66, 67]])
  (.cond (.t 38)
    (.pre [.keep []] (.seq (.r [.mv 4 (.c (.d (.b false)))])
    (.ret)))
    (.pre [.keep []] (.skip))))
  (.seq (.r [.mv 4 (.c (.d (.b true)))])
  (.ret))))))))⟩
/-- live: [0, 1, 5]; objects: [] -/
def weqWireS_l0 : C :=
  .seq (.seq (.r [.mv 11 (.t 5),
      .mv 12 (.t 0),
      .len 13 (.t 12),
      .bin 14 .lss .num (.t 11) (.t 13),
      .kill [11, 12, 13]])
    (.cond (.t 14)
      (.pre [.kill [14]] (.skip))
      (.pre [.keep []] (.ex 0))))
    (.seq (.blk 1 (.seq (.post (.r [.mv 17 (.t 0),
      .mv 18 (.t 5),
      .ia 19 2 (.t 17) (.t 18),
      .ld 20 2 true (.t 19),
      .mv 21 (.t 1),
      .mv 22 (.t 5),
      .ia 23 2 (.t 21) (.t 22),
      .ld 24 2 true (.t 23),
      .call 25 true [] (.c (.clo weqWire [])) [(.t 20), (.t 24)],
      .not 26 (.t 25)]) [.keep [26, 5, 1, 0]])
    (.cond (.t 26)
      (.pre [.keep []] (.seq (.r [.mv 4 (.c (.d (.b false)))])
      (.ret)))
      (.pre [.kill [26]] (.skip)))))
    (.r [.mv 15 (.t 5),
      .bin 16 .add .num (.t 15) (.c (.d (.i .i64 1))),
      .mv 5 (.t 16),
      .kill [15, 16]]))
def weqWireS_m : Fn := ⟨2, [.t 4], false,
  .seq (.r [.mv 4 (.c (.d (.b false))),
    .kill [4]])
  (.seq (.seq (.r [.mv 6 (.t 0),
    .len 7 (.t 6),
    .mv 8 (.t 1),
    .len 9 (.t 8),
    .bin 10 .neq .num (.t 7) (.t 9),
    .keep [10, 1, 0]])
  (.cond (.t 10)
    (.pre [.keep []] (.seq (.r [.mv 4 (.c (.d (.b false)))])
    (.ret)))
    (.pre [.kill [10]] (.skip))))
  (.seq (.seq (.r [.mv 5 (.c (.d (.i .i64 0)))])
  (.blk 0 (.pre [.keep [5, 1, 0]] (.loop weqWireS_l0))))
  (.seq (.r [.mv 4 (.c (.d (.b true)))])
  (.ret))))⟩
/-- live: [0, 1, 5]; objects: [] -/
def weqByteSS_l0 : C :=
  .seq (.seq (.r [.mv 11 (.t 5),
      .mv 12 (.t 0),
      .len 13 (.t 12),
      .bin 14 .lss .num (.t 11) (.t 13),
      .kill [11, 12, 13]])
    (.cond (.t 14)
      (.pre [.kill [14]] (.skip))
      (.pre [.keep []] (.ex 0))))
    (.seq (.blk 1 (.seq (.post (.r [.mv 17 (.t 0),
      .mv 18 (.t 5),
      .ia 19 1 (.t 17) (.t 18),
      .ld 20 1 false (.t 19),
      .mv 21 (.t 1),
      .mv 22 (.t 5),
      .ia 23 1 (.t 21) (.t 22),
      .ld 24 1 false (.t 23),
      .call 25 true [] (.c (.clo weqByteS [])) [(.t 20), (.t 24)],
      .not 26 (.t 25)]) [.keep [26, 5, 1, 0]])
    (.cond (.t 26)
      (.pre [.keep []] (.seq (.r [.mv 4 (.c (.d (.b false)))])
      (.ret)))
      (.pre [.kill [26]] (.skip)))))
    (.r [.mv 15 (.t 5),
      .bin 16 .add .num (.t 15) (.c (.d (.i .i64 1))),
      .mv 5 (.t 16),
      .kill [15, 16]]))
def weqByteSS_m : Fn := ⟨2, [.t 4], false,
  .seq (.r [.mv 4 (.c (.d (.b false))),
    .kill [4]])
  (.seq (.seq (.r [.mv 6 (.t 0),
    .len 7 (.t 6),
    .mv 8 (.t 1),
    .len 9 (.t 8),
    .bin 10 .neq .num (.t 7) (.t 9),
    .keep [10, 1, 0]])
  (.cond (.t 10)
    (.pre [.keep []] (.seq (.r [.mv 4 (.c (.d (.b false)))])
    (.ret)))
    (.pre [.kill [10]] (.skip))))
  (.seq (.seq (.r [.mv 5 (.c (.d (.i .i64 0)))])
  (.blk 0 (.pre [.keep [5, 1, 0]] (.loop weqByteSS_l0))))
  (.seq (.r [.mv 4 (.c (.d (.b true)))])
  (.ret))))⟩
/-- live: [0, 1, 5]; objects: [] -/
def weqByteS_l0 : C :=
  .seq (.seq (.r [.mv 11 (.t 5),
      .mv 12 (.t 0),
      .len 13 (.t 12),
      .bin 14 .lss .num (.t 11) (.t 13),
      .kill [11, 12, 13]])
    (.cond (.t 14)
      (.pre [.kill [14]] (.skip))
      (.pre [.keep []] (.ex 0))))
    (.seq (.blk 1 (.seq (.post (.r [.mv 17 (.t 0),
      .mv 18 (.t 5),
      .ia 19 1 (.t 17) (.t 18),
      .ld 20 1 false (.t 19),
      .mv 21 (.t 1),
      .mv 22 (.t 5),
      .ia 23 1 (.t 21) (.t 22),
      .ld 24 1 false (.t 23),
      .bin 25 .neq .num (.t 20) (.t 24)]) [.keep [25, 5, 1, 0]])
    (.cond (.t 25)
      (.pre [.keep []] (.seq (.r [.mv 4 (.c (.d (.b false)))])
      (.ret)))
      (.pre [.kill [25]] (.skip)))))
    (.r [.mv 15 (.t 5),
      .bin 16 .add .num (.t 15) (.c (.d (.i .i64 1))),
      .mv 5 (.t 16),
      .kill [15, 16]]))
def weqByteS_m : Fn := ⟨2, [.t 4], false,
  .seq (.r [.mv 4 (.c (.d (.b false))),
    .kill [4]])
  (.seq (.seq (.r [.mv 6 (.t 0),
    .len 7 (.t 6),
    .mv 8 (.t 1),
    .len 9 (.t 8),
    .bin 10 .neq .num (.t 7) (.t 9),
    .keep [10, 1, 0]])
  (.cond (.t 10)
    (.pre [.keep []] (.seq (.r [.mv 4 (.c (.d (.b false)))])
    (.ret)))
    (.pre [.kill [10]] (.skip))))
  (.seq (.seq (.r [.mv 5 (.c (.d (.i .i64 0)))])
  (.blk 0 (.pre [.keep [5, 1, 0]] (.loop weqByteS_l0))))
  (.seq (.r [.mv 4 (.c (.d (.b true)))])
  (.ret))))⟩
def wmarkSrv_m : Fn := ⟨2, [.t 4], false,
  .seq (.r [.bxl 2 TSrv (.t 0),
    .mv 4 (.c (.d (.i .i64 0))),
    .kill [0, 4]])
  (.seq (.r [.fa 5 (.t 2) 0,
    .ld 6 1 false (.t 5),
    .mv 7 (.t 1),
    .call 8 true [0] (.c (.clo wmarkResS [])) [(.t 6), (.t 7)],
    .mv 1 (.t 8),
    .keep [2, 1]])
  (.seq (.r [.fa 9 (.t 2) 1,
    .ld 10 1 false (.t 9),
    .mv 11 (.t 1),
    .call 12 true [1] (.c (.clo wmarkLockS [])) [(.t 10), (.t 11)],
    .mv 1 (.t 12),
    .keep [2, 1]])
  (.seq (.r [.fa 13 (.t 2) 4,
    .ld 14 1 false (.t 13),
    .mv 15 (.t 1),
    .call 16 true [2] (.c (.clo wmarkIntS [])) [(.t 14), (.t 15)],
    .mv 1 (.t 16),
    .keep [2, 1]])
  (.seq (.r [.fa 17 (.t 2) 5,
    .ld 18 1 false (.t 17),
    .mv 19 (.t 1),
    .call 20 true [3] (.c (.clo wmarkIntS [])) [(.t 18), (.t 19)],
    .kill [1, 2, 17, 18, 19],
    .mv 1 (.t 20),
    .keep [1],
    .drop [66]])
  (.seq (.r [.mv 21 (.t 1),
    .mv 4 (.t 21),
    .keep [4]])
  (.ret))))))⟩
/-- live: [0, 1, 5]; objects: [0] -/
def wmarkWireS_l0 : C :=
  .seq (.seq (.r [.mv 6 (.t 5),
      .mv 7 (.t 0),
      .len 8 (.t 7),
      .bin 9 .lss .num (.t 6) (.t 8),
      .kill [6, 7, 8]])
    (.cond (.t 9)
      (.pre [.kill [9]] (.skip))
      (.pre [.keep [1]] (.ex 0))))
    (.seq (.blk 1 (.seq (.r [.mv 12 (.t 0),
      .mv 13 (.t 5),
      .ia 14 2 (.t 12) (.t 13),
      .fa 15 (.t 14) 0,
      .ldm 16 (.t 15),
      .mv 17 (.t 1),
      .kill [1, 12, 13, 14, 15],
      .call 18 true [80] (.c (.clo wmarkByteS [])) [(.t 16), (.t 17)],
      .cls 0 80,
      .mv 1 (.t 18),
      .keep [5, 1, 0],
      .drop [80]])
    (.seq (.r [.mv 19 (.t 0),
      .mv 20 (.t 5),
      .mv 21 (.t 1),
      .ia 22 2 (.t 19) (.t 20),
      .fa 23 (.t 22) 1,
      .st 1 (.t 23) (.t 21),
      .keep [5, 1, 0]])
    (.r [.mv 24 (.t 1),
      .bin 25 .add .num (.t 24) (.c (.d (.i .i64 1))),
      .mv 1 (.t 25),
      .kill [24, 25]]))))
    (.r [.mv 10 (.t 5),
      .bin 11 .add .num (.t 10) (.c (.d (.i .i64 1))),
      .mv 5 (.t 11),
      .kill [10, 11]]))
def wmarkWireS_m : Fn := ⟨2, [.t 4], false,
  .seq (.r [.mv 4 (.c (.d (.i .i64 0))),
    .kill [4]])
  (.seq (.seq (.r [.mv 5 (.c (.d (.i .i64 0)))])
  (.blk 0 (.pre [.keep [5, 1, 0]] (.loop wmarkWireS_l0))))
  (.seq (.r [.mv 26 (.t 1),
    .mv 4 (.t 26),
    .keep [4]])
  (.ret)))⟩
/-- live: [0, 1, 5]; objects: [0] -/
def wmarkByteSS_l0 : C :=
  .seq (.seq (.r [.mv 6 (.t 5),
      .mv 7 (.t 0),
      .len 8 (.t 7),
      .bin 9 .lss .num (.t 6) (.t 8),
      .kill [6, 7, 8]])
    (.cond (.t 9)
      (.pre [.kill [9]] (.skip))
      (.pre [.keep [1]] (.ex 0))))
    (.seq (.blk 1 (.r [.mv 12 (.t 0),
      .mv 13 (.t 5),
      .ia 14 1 (.t 12) (.t 13),
      .ldm 15 (.t 14),
      .mv 16 (.t 1),
      .call 17 true [79] (.c (.clo wmarkByteS [])) [(.t 15), (.t 16)],
      .cls 0 79,
      .kill [1, 12, 13, 14, 15, 16],
      .mv 1 (.t 17),
      .keep [5, 1, 0],
      .drop [79]]))
    (.r [.mv 10 (.t 5),
      .bin 11 .add .num (.t 10) (.c (.d (.i .i64 1))),
      .mv 5 (.t 11),
      .kill [10, 11]]))
def wmarkByteSS_m : Fn := ⟨2, [.t 4], false,
  .seq (.r [.mv 4 (.c (.d (.i .i64 0))),
    .kill [4]])
  (.seq (.seq (.r [.mv 5 (.c (.d (.i .i64 0)))])
  (.blk 0 (.pre [.keep [5, 1, 0]] (.loop wmarkByteSS_l0))))
  (.seq (.r [.mv 18 (.t 1),
    .mv 4 (.t 18),
    .keep [4]])
  (.ret)))⟩
/-- live: [0, 1, 5]; objects: [0] -/
def wmarkByteS_l0 : C :=
  .seq (.seq (.r [.mv 6 (.t 5),
      .mv 7 (.t 0),
      .len 8 (.t 7),
      .bin 9 .lss .num (.t 6) (.t 8),
      .kill [6, 7, 8]])
    (.cond (.t 9)
      (.pre [.kill [9]] (.skip))
      (.pre [.keep [1]] (.ex 0))))
    (.seq (.blk 1 (.seq (.r [.mv 12 (.t 0),
      .mv 13 (.t 5),
      .mv 14 (.t 1),
      .cvi 15 .u8 (.t 14),
      .ia 16 1 (.t 12) (.t 13),
      .st 1 (.t 16) (.t 15),
      .keep [5, 1, 0]])
    (.r [.mv 17 (.t 1),
      .bin 18 .add .num (.t 17) (.c (.d (.i .i64 1))),
      .mv 1 (.t 18),
      .kill [17, 18]])))
    (.r [.mv 10 (.t 5),
      .bin 11 .add .num (.t 10) (.c (.d (.i .i64 1))),
      .mv 5 (.t 11),
      .kill [10, 11]]))
def wmarkByteS_m : Fn := ⟨2, [.t 4], false,
  .seq (.r [.mv 4 (.c (.d (.i .i64 0))),
    .kill [4]])
  (.seq (.seq (.r [.mv 5 (.c (.d (.i .i64 0)))])
  (.blk 0 (.pre [.keep [5, 1, 0]] (.loop wmarkByteS_l0))))
  (.seq (.r [.mv 19 (.t 1),
    .mv 4 (.t 19),
    .keep [4]])
  (.ret)))⟩
def wheldSrv_m : Fn := ⟨2, [.t 4], false,
  .seq (.r [.bx 2 TSrv true (.t 0),
    .mv 4 (.c (.d (.i .i64 0))),
    .kill [0, 4]])
  (.seq (.r [.fa 5 (.t 2) 0,
    .ld 6 1 false (.t 5),
    .mv 7 (.t 1),
    .call 8 true [] (.c (.clo wheldResS [])) [(.t 6), (.t 7)],
    .mv 1 (.t 8),
    .keep [2, 1]])
  (.seq (.seq (.r [.mv 9 (.t 1),
    .bin 10 .lss .num (.t 9) (.c (.d (.i .i64 0))),
    .kill [9]])
  (.cond (.t 10)
    (.pre [.keep [], .drop [66]] (.seq (.r [.mv 4 (.c (.d (.i .i64 (-1))))])
    (.ret)))
    (.pre [.kill [10]] (.skip))))
  (.seq (.r [.fa 11 (.t 2) 1,
    .ld 12 1 false (.t 11),
    .mv 13 (.t 1),
    .call 14 true [] (.c (.clo wheldLockS [])) [(.t 12), (.t 13)],
    .mv 1 (.t 14),
    .keep [2, 1]])
  (.seq (.seq (.r [.mv 15 (.t 1),
    .bin 16 .lss .num (.t 15) (.c (.d (.i .i64 0))),
    .kill [15]])
  (.cond (.t 16)
    (.pre [.keep [], .drop [66]] (.seq (.r [.mv 4 (.c (.d (.i .i64 (-1))))])
    (.ret)))
    (.pre [.kill [16]] (.skip))))
  (.seq (.r [.fa 17 (.t 2) 4,
    .ld 18 1 false (.t 17),
    .mv 19 (.t 1),
    .call 20 true [] (.c (.clo wheldIntS [])) [(.t 18), (.t 19)],
    .mv 1 (.t 20),
    .keep [2, 1]])
  (.seq (.seq (.r [.mv 21 (.t 1),
    .bin 22 .lss .num (.t 21) (.c (.d (.i .i64 0))),
    .kill [21]])
  (.cond (.t 22)
    (.pre [.keep [], .drop [66]] (.seq (.r [.mv 4 (.c (.d (.i .i64 (-1))))])
    (.ret)))
    (.pre [.kill [22]] (.skip))))
  (.seq (.r [.fa 23 (.t 2) 5,
    .ld 24 1 false (.t 23),
    .mv 25 (.t 1),
    .call 26 true [] (.c (.clo wheldIntS [])) [(.t 24), (.t 25)],
    .kill [1, 2, 23, 24, 25],
    .mv 1 (.t 26),
    .keep [1],
    .drop [66]])
  (.seq (.seq (.r [.mv 27 (.t 1),
    .bin 28 .lss .num (.t 27) (.c (.d (.i .i64 0))),
    .kill [27]])
  (.cond (.t 28)
    (.pre [.keep []] (.seq (.r [.mv 4 (.c (.d (.i .i64 (-1))))])
    (.ret)))
    (.pre [.kill [28]] (.skip))))
  (.seq (.r [.mv 29 (.t 1),
    .mv 4 (.t 29),
    .keep [4]])
  (.ret))))))))))⟩
/-- live: [0, 1, 5]; objects: [] -/
def wheldWireS_l0 : C :=
  .seq (.seq (.r [.mv 6 (.t 5),
      .mv 7 (.t 0),
      .len 8 (.t 7),
      .bin 9 .lss .num (.t 6) (.t 8),
      .kill [6, 7, 8]])
    (.cond (.t 9)
      (.pre [.kill [9]] (.skip))
      (.pre [.keep [1]] (.ex 0))))
    (.seq (.blk 1 (.seq (.r [.mv 12 (.t 0),
      .mv 13 (.t 5),
      .ia 14 2 (.t 12) (.t 13),
      .fa 15 (.t 14) 0,
      .ld 16 1 false (.t 15),
      .mv 17 (.t 1),
      .kill [1, 12, 13, 14, 15],
      .call 18 true [] (.c (.clo wheldByteS [])) [(.t 16), (.t 17)],
      .mv 1 (.t 18),
      .keep [5, 1, 0]])
    (.seq (.seq (.r [.mv 19 (.t 1),
      .bin 20 .lss .num (.t 19) (.c (.d (.i .i64 0))),
      .kill [19]])
    (.cond (.t 20)
      (.pre [.keep []] (.seq (.r [.mv 4 (.c (.d (.i .i64 (-1))))])
      (.ret)))
      (.pre [.kill [20]] (.skip))))
    (.seq (.seq (.r [.mv 21 (.t 0),
      .mv 22 (.t 5),
      .ia 23 2 (.t 21) (.t 22),
      .fa 24 (.t 23) 1,
      .ld 25 1 false (.t 24),
      .mv 26 (.t 1),
      .bin 27 .neq .num (.t 25) (.t 26),
      .keep [27, 5, 1, 0]])
    (.cond (.t 27)
      (.pre [.keep []] (.seq (.r [.mv 4 (.c (.d (.i .i64 (-1))))])
      (.ret)))
      (.pre [.kill [27]] (.skip))))
    (.r [.mv 28 (.t 1),
      .bin 29 .add .num (.t 28) (.c (.d (.i .i64 1))),
      .mv 1 (.t 29),
      .kill [28, 29]])))))
    (.r [.mv 10 (.t 5),
      .bin 11 .add .num (.t 10) (.c (.d (.i .i64 1))),
      .mv 5 (.t 11),
      .kill [10, 11]]))
def wheldWireS_m : Fn := ⟨2, [.t 4], false,
  .seq (.r [.mv 4 (.c (.d (.i .i64 0))),
    .kill [4]])
  (.seq (.seq (.r [.mv 5 (.c (.d (.i .i64 0)))])
  (.blk 0 (.pre [.keep [5, 1, 0]] (.loop wheldWireS_l0))))
  (.seq (.r [.mv 30 (.t 1),
    .mv 4 (.t 30),
    .keep [4]])
  (.ret)))⟩
/-- live: [0, 1, 5]; objects: [] -/
def wheldByteSS_l0 : C :=
  .seq (.seq (.r [.mv 6 (.t 5),
      .mv 7 (.t 0),
      .len 8 (.t 7),
      .bin 9 .lss .num (.t 6) (.t 8),
      .kill [6, 7, 8]])
    (.cond (.t 9)
      (.pre [.kill [9]] (.skip))
      (.pre [.keep [1]] (.ex 0))))
    (.seq (.blk 1 (.seq (.r [.mv 12 (.t 0),
      .mv 13 (.t 5),
      .ia 14 1 (.t 12) (.t 13),
      .ld 15 1 false (.t 14),
      .mv 16 (.t 1),
      .call 17 true [] (.c (.clo wheldByteS [])) [(.t 15), (.t 16)],
      .kill [1, 12, 13, 14, 15, 16],
      .mv 1 (.t 17),
      .keep [5, 1, 0]])
    (.seq (.r [.mv 18 (.t 1),
      .bin 19 .lss .num (.t 18) (.c (.d (.i .i64 0))),
      .kill [18]])
    (.cond (.t 19)
      (.pre [.keep []] (.seq (.r [.mv 4 (.c (.d (.i .i64 (-1))))])
      (.ret)))
      (.pre [.kill [19]] (.skip))))))
    (.r [.mv 10 (.t 5),
      .bin 11 .add .num (.t 10) (.c (.d (.i .i64 1))),
      .mv 5 (.t 11),
      .kill [10, 11]]))
def wheldByteSS_m : Fn := ⟨2, [.t 4], false,
  .seq (.r [.mv 4 (.c (.d (.i .i64 0))),
    .kill [4]])
  (.seq (.seq (.r [.mv 5 (.c (.d (.i .i64 0)))])
  (.blk 0 (.pre [.keep [5, 1, 0]] (.loop wheldByteSS_l0))))
  (.seq (.r [.mv 20 (.t 1),
    .mv 4 (.t 20),
    .keep [4]])
  (.ret)))⟩
/-- live: [0, 1, 5]; objects: [] -/
def wheldByteS_l0 : C :=
  .seq (.seq (.r [.mv 6 (.t 5),
      .mv 7 (.t 0),
      .len 8 (.t 7),
      .bin 9 .lss .num (.t 6) (.t 8),
      .kill [6, 7, 8]])
    (.cond (.t 9)
      (.pre [.kill [9]] (.skip))
      (.pre [.keep [1]] (.ex 0))))
    (.seq (.blk 1 (.seq (.seq (.r [.mv 12 (.t 0),
      .mv 13 (.t 5),
      .ia 14 1 (.t 12) (.t 13),
      .ld 15 1 false (.t 14),
      .mv 16 (.t 1),
      .cvi 17 .u8 (.t 16),
      .bin 18 .neq .num (.t 15) (.t 17),
      .keep [18, 5, 1, 0]])
    (.cond (.t 18)
      (.pre [.keep []] (.seq (.r [.mv 4 (.c (.d (.i .i64 (-1))))])
      (.ret)))
      (.pre [.kill [18]] (.skip))))
    (.r [.mv 19 (.t 1),
      .bin 20 .add .num (.t 19) (.c (.d (.i .i64 1))),
      .mv 1 (.t 20),
      .kill [19, 20]])))
    (.r [.mv 10 (.t 5),
      .bin 11 .add .num (.t 10) (.c (.d (.i .i64 1))),
      .mv 5 (.t 11),
      .kill [10, 11]]))
def wheldByteS_m : Fn := ⟨2, [.t 4], false,
  .seq (.r [.mv 4 (.c (.d (.i .i64 0))),
    .kill [4]])
  (.seq (.seq (.r [.mv 5 (.c (.d (.i .i64 0)))])
  (.blk 0 (.pre [.keep [5, 1, 0]] (.loop wheldByteS_l0))))
  (.seq (.r [.mv 21 (.t 1),
    .mv 4 (.t 21),
    .keep [4]])
  (.ret)))⟩
/-- live: [0, 1, 5]; objects: [] -/
def weqResS_l0 : C :=
  .seq (.seq (.r [.mv 11 (.t 5),
      .mv 12 (.t 0),
      .len 13 (.t 12),
      .bin 14 .lss .num (.t 11) (.t 13),
      .kill [11, 12, 13]])
    (.cond (.t 14)
      (.pre [.kill [14]] (.skip))
      (.pre [.keep []] (.ex 0))))
    (.seq (.blk 1 (.seq (.post (.r [.mv 17 (.t 0),
      .mv 18 (.t 5),
      .ia 19 5 (.t 17) (.t 18),
      .ld 20 5 true (.t 19),
      .mv 21 (.t 1),
      .mv 22 (.t 5),
      .ia 23 5 (.t 21) (.t 22),
      .ld 24 5 true (.t 23),
      .call 25 true [] (.c (.clo weqRes [])) [(.t 20), (.t 24)],
      .not 26 (.t 25)]) [.keep [26, 5, 1, 0]])
    (.cond (.t 26)
      (.pre [.keep []] (.seq (.r [.mv 4 (.c (.d (.b false)))])
      (.ret)))
      (.pre [.kill [26]] (.skip)))))
    (.r [.mv 15 (.t 5),
      .bin 16 .add .num (.t 15) (.c (.d (.i .i64 1))),
      .mv 5 (.t 16),
      .kill [15, 16]]))
def weqResS_m : Fn := ⟨2, [.t 4], false,
  .seq (.r [.mv 4 (.c (.d (.b false))),
    .kill [4]])
  (.seq (.seq (.r [.mv 6 (.t 0),
    .len 7 (.t 6),
    .mv 8 (.t 1),
    .len 9 (.t 8),
    .bin 10 .neq .num (.t 7) (.t 9),
    .keep [10, 1, 0]])
  (.cond (.t 10)
    (.pre [.keep []] (.seq (.r [.mv 4 (.c (.d (.b false)))])
    (.ret)))
    (.pre [.kill [10]] (.skip))))
  (.seq (.seq (.r [.mv 5 (.c (.d (.i .i64 0)))])
  (.blk 0 (.pre [.keep [5, 1, 0]] (.loop weqResS_l0))))
  (.seq (.r [.mv 4 (.c (.d (.b true)))])
  (.ret))))⟩
/-- live: [0, 1, 5]; objects: [] -/
def weqLockS_l0 : C :=
  .seq (.seq (.r [.mv 11 (.t 5),
      .mv 12 (.t 0),
      .len 13 (.t 12),
      .bin 14 .lss .num (.t 11) (.t 13),
      .kill [11, 12, 13]])
    (.cond (.t 14)
      (.pre [.kill [14]] (.skip))
      (.pre [.keep []] (.ex 0))))
    (.seq (.blk 1 (.seq (.post (.r [.mv 17 (.t 0),
      .mv 18 (.t 5),
      .ia 19 5 (.t 17) (.t 18),
      .ld 20 5 true (.t 19),
      .mv 21 (.t 1),
      .mv 22 (.t 5),
      .ia 23 5 (.t 21) (.t 22),
      .ld 24 5 true (.t 23),
      .call 25 true [] (.c (.clo weqLock [])) [(.t 20), (.t 24)],
      .not 26 (.t 25)]) [.keep [26, 5, 1, 0]])
    (.cond (.t 26)
      (.pre [.keep []] (.seq (.r [.mv 4 (.c (.d (.b false)))])
      (.ret)))
      (.pre [.kill [26]] (.skip)))))
    (.r [.mv 15 (.t 5),
      .bin 16 .add .num (.t 15) (.c (.d (.i .i64 1))),
      .mv 5 (.t 16),
      .kill [15, 16]]))
def weqLockS_m : Fn := ⟨2, [.t 4], false,
  .seq (.r [.mv 4 (.c (.d (.b false))),
    .kill [4]])
  (.seq (.seq (.r [.mv 6 (.t 0),
    .len 7 (.t 6),
    .mv 8 (.t 1),
    .len 9 (.t 8),
    .bin 10 .neq .num (.t 7) (.t 9),
    .keep [10, 1, 0]])
  (.cond (.t 10)
    (.pre [.keep []] (.seq (.r [.mv 4 (.c (.d (.b false)))])
    (.ret)))
    (.pre [.kill [10]] (.skip))))
  (.seq (.seq (.r [.mv 5 (.c (.d (.i .i64 0)))])
  (.blk 0 (.pre [.keep [5, 1, 0]] (.loop weqLockS_l0))))
  (.seq (.r [.mv 4 (.c (.d (.b true)))])
  (.ret))))⟩
/-- live: [0, 1, 5]; objects: [] -/
def weqIntS_l0 : C :=
  .seq (.seq (.r [.mv 11 (.t 5),
      .mv 12 (.t 0),
      .len 13 (.t 12),
      .bin 14 .lss .num (.t 11) (.t 13),
      .kill [11, 12, 13]])
    (.cond (.t 14)
      (.pre [.kill [14]] (.skip))
      (.pre [.keep []] (.ex 0))))
    (.seq (.blk 1 (.seq (.post (.r [.mv 17 (.t 0),
      .mv 18 (.t 5),
      .ia 19 1 (.t 17) (.t 18),
      .ld 20 1 false (.t 19),
      .mv 21 (.t 1),
      .mv 22 (.t 5),
      .ia 23 1 (.t 21) (.t 22),
      .ld 24 1 false (.t 23),
      .bin 25 .neq .num (.t 20) (.t 24)]) [.keep [25, 5, 1, 0]])
    (.cond (.t 25)
      (.pre [.keep []] (.seq (.r [.mv 4 (.c (.d (.b false)))])
      (.ret)))
      (.pre [.kill [25]] (.skip)))))
    (.r [.mv 15 (.t 5),
      .bin 16 .add .num (.t 15) (.c (.d (.i .i64 1))),
      .mv 5 (.t 16),
      .kill [15, 16]]))
def weqIntS_m : Fn := ⟨2, [.t 4], false,
  .seq (.r [.mv 4 (.c (.d (.b false))),
    .kill [4]])
  (.seq (.seq (.r [.mv 6 (.t 0),
    .len 7 (.t 6),
    .mv 8 (.t 1),
    .len 9 (.t 8),
    .bin 10 .neq .num (.t 7) (.t 9),
    .keep [10, 1, 0]])
  (.cond (.t 10)
    (.pre [.keep []] (.seq (.r [.mv 4 (.c (.d (.b false)))])
    (.ret)))
    (.pre [.kill [10]] (.skip))))
  (.seq (.seq (.r [.mv 5 (.c (.d (.i .i64 0)))])
  (.blk 0 (.pre [.keep [5, 1, 0]] (.loop weqIntS_l0))))
  (.seq (.r [.mv 4 (.c (.d (.b true)))])
  (.ret))))⟩
def weqWire_m : Fn := ⟨2, [.t 4], false,
  .seq (.r [.bx 2 TWire true (.t 0),
    .bx 3 TWire true (.t 1),
    .mv 4 (.c (.d (.b false))),
    .keep [3, 2]])
  (.seq (.seq (.r [.fa 5 (.t 2) 0,
    .ld 6 1 false (.t 5),
    .fa 7 (.t 3) 0,
    .ld 8 1 false (.t 7),
    .call 9 true [] (.c (.clo weqByteS [])) [(.t 6), (.t 8)],
    .not 10 (.t 9),
    .keep [10, 3, 2]])
  (.cond (.t 10)
    (.pre [.keep [], .drop [66, 67]] (.seq (.r [.mv 4 (.c (.d (.b false)))])
    (.ret)))
    (.pre [.kill [10]] (.skip))))
  (.seq (.seq (.r [.fa 11 (.t 2) 1,
    .ld 12 1 false (.t 11),
    .fa 13 (.t 3) 1,
    .ld 14 1 false (.t 13),
    .bin 15 .neq .num (.t 12) (.t 14),
    .keep [15],
    .drop [66, 67]])
  (.cond (.t 15)
    (.pre [.keep []] (.seq (.r [.mv 4 (.c (.d (.b false)))])
    (.ret)))
    (.pre [.keep []] (.skip))))
  (.seq (.r [.mv 4 (.c (.d (.b true)))])
  (.ret))))⟩
/-- live: [0, 1, 5]; objects: [0] -/
def wmarkResS_l0 : C :=
  .seq (.seq (.r [.mv 6 (.t 5),
      .mv 7 (.t 0),
      .len 8 (.t 7),
      .bin 9 .lss .num (.t 6) (.t 8),
      .kill [6, 7, 8]])
    (.cond (.t 9)
      (.pre [.kill [9]] (.skip))
      (.pre [.keep [1]] (.ex 0))))
    (.seq (.blk 1 (.seq (.r [.mv 12 (.t 0),
      .mv 13 (.t 5),
      .ia 14 5 (.t 12) (.t 13),
      .fa 15 (.t 14) 0,
      .ldm 16 (.t 15),
      .mv 17 (.t 1),
      .kill [1, 12, 13, 14, 15],
      .call 18 true [80] (.c (.clo wmarkStringS [])) [(.t 16), (.t 17)],
      .cls 0 80,
      .mv 1 (.t 18),
      .keep [5, 1, 0],
      .drop [80]])
    (.seq (.r [.mv 19 (.t 0),
      .mv 20 (.t 5),
      .mv 21 (.t 1),
      .bin 22 .rem .num (.t 21) (.c (.d (.i .i64 3))),
      .bin 23 .eql .num (.t 22) (.c (.d (.i .i64 0))),
      .ia 24 5 (.t 19) (.t 20),
      .fa 25 (.t 24) 1,
      .kill [19, 20, 21, 22, 24],
      .st 1 (.t 25) (.t 23),
      .keep [5, 1, 0]])
    (.seq (.r [.mv 26 (.t 1),
      .bin 27 .add .num (.t 26) (.c (.d (.i .i64 1))),
      .mv 1 (.t 27),
      .kill [26, 27]])
    (.seq (.r [.mv 28 (.t 0),
      .mv 29 (.t 5),
      .mv 30 (.t 1),
      .call 31 true [] (.c (.clo wmarkText [])) [(.t 30)],
      .ia 32 5 (.t 28) (.t 29),
      .fa 33 (.t 32) 2,
      .st 1 (.t 33) (.t 31),
      .keep [5, 1, 0]])
    (.seq (.r [.mv 34 (.t 1),
      .bin 35 .add .num (.t 34) (.c (.d (.i .i64 1))),
      .mv 1 (.t 35),
      .kill [34, 35]])
    (.seq (.r [.mv 36 (.t 0),
      .mv 37 (.t 5),
      .mv 38 (.t 1),
      .ia 39 5 (.t 36) (.t 37),
      .fa 40 (.t 39) 3,
      .st 1 (.t 40) (.t 38),
      .keep [5, 1, 0]])
    (.seq (.r [.mv 41 (.t 1),
      .bin 42 .add .num (.t 41) (.c (.d (.i .i64 1))),
      .mv 1 (.t 42),
      .kill [41, 42]])
    (.r [.mv 43 (.t 0),
      .mv 44 (.t 5),
      .ia 45 5 (.t 43) (.t 44),
      .fa 46 (.t 45) 4,
      .ldm 47 (.t 46),
      .mv 48 (.t 1),
      .kill [1, 43, 44, 45, 46],
      .call 49 true [111] (.c (.clo wmarkPropS [])) [(.t 47), (.t 48)],
      .cls 0 111,
      .mv 1 (.t 49),
      .keep [5, 1, 0],
      .drop [111]])))))))))
    (.r [.mv 10 (.t 5),
      .bin 11 .add .num (.t 10) (.c (.d (.i .i64 1))),
      .mv 5 (.t 11),
      .kill [10, 11]]))
def wmarkResS_m : Fn := ⟨2, [.t 4], false,
  .seq (.r [.mv 4 (.c (.d (.i .i64 0))),
    .kill [4]])
  (.seq (.seq (.r [.mv 5 (.c (.d (.i .i64 0)))])
  (.blk 0 (.pre [.keep [5, 1, 0]] (.loop wmarkResS_l0))))
  (.seq (.r [.mv 50 (.t 1),
    .mv 4 (.t 50),
    .keep [4]])
  (.ret)))⟩
/-- live: [0, 1, 5]; objects: [0] -/
def wmarkLockS_l0 : C :=
  .seq (.seq (.r [.mv 6 (.t 5),
      .mv 7 (.t 0),
      .len 8 (.t 7),
      .bin 9 .lss .num (.t 6) (.t 8),
      .kill [6, 7, 8]])
    (.cond (.t 9)
      (.pre [.kill [9]] (.skip))
      (.pre [.keep [1]] (.ex 0))))
    (.seq (.blk 1 (.seq (.r [.mv 12 (.t 0),
      .mv 13 (.t 5),
      .mv 14 (.t 1),
      .ia 15 5 (.t 12) (.t 13),
      .fa 16 (.t 15) 0,
      .st 1 (.t 16) (.t 14),
      .keep [5, 1, 0]])
    (.seq (.r [.mv 17 (.t 1),
      .bin 18 .add .num (.t 17) (.c (.d (.i .i64 1))),
      .mv 1 (.t 18),
      .kill [17, 18]])
    (.seq (.r [.mv 19 (.t 0),
      .mv 20 (.t 5),
      .ia 21 5 (.t 19) (.t 20),
      .fa 22 (.t 21) 1,
      .ldm 23 (.t 22),
      .mv 24 (.t 1),
      .kill [1, 19, 20, 21, 22],
      .call 25 true [87] (.c (.clo wmarkStringS [])) [(.t 23), (.t 24)],
      .cls 0 87,
      .mv 1 (.t 25),
      .keep [5, 1, 0],
      .drop [87]])
    (.seq (.r [.mv 26 (.t 0),
      .mv 27 (.t 5),
      .mv 28 (.t 1),
      .bin 29 .rem .num (.t 28) (.c (.d (.i .i64 3))),
      .bin 30 .eql .num (.t 29) (.c (.d (.i .i64 0))),
      .ia 31 5 (.t 26) (.t 27),
      .fa 32 (.t 31) 2,
      .kill [26, 27, 28, 29, 31],
      .st 1 (.t 32) (.t 30),
      .keep [5, 1, 0]])
    (.seq (.r [.mv 33 (.t 1),
      .bin 34 .add .num (.t 33) (.c (.d (.i .i64 1))),
      .mv 1 (.t 34),
      .kill [33, 34]])
    (.seq (.r [.mv 35 (.t 0),
      .mv 36 (.t 5),
      .mv 37 (.t 1),
      .bin 38 .rem .num (.t 37) (.c (.d (.i .i64 3))),
      .bin 39 .eql .num (.t 38) (.c (.d (.i .i64 0))),
      .ia 40 5 (.t 35) (.t 36),
      .fa 41 (.t 40) 3,
      .kill [35, 36, 37, 38, 40],
      .st 1 (.t 41) (.t 39),
      .keep [5, 1, 0]])
    (.seq (.r [.mv 42 (.t 1),
      .bin 43 .add .num (.t 42) (.c (.d (.i .i64 1))),
      .mv 1 (.t 43),
      .kill [42, 43]])
    (.seq (.r [.mv 44 (.t 0),
      .mv 45 (.t 5),
      .mv 46 (.t 1),
      .ia 47 5 (.t 44) (.t 45),
      .fa 48 (.t 47) 4,
      .st 1 (.t 48) (.t 46),
      .keep [5, 1, 0]])
    (.r [.mv 49 (.t 1),
      .bin 50 .add .num (.t 49) (.c (.d (.i .i64 1))),
      .mv 1 (.t 50),
      .kill [49, 50]]))))))))))
    (.r [.mv 10 (.t 5),
      .bin 11 .add .num (.t 10) (.c (.d (.i .i64 1))),
      .mv 5 (.t 11),
      .kill [10, 11]]))
def wmarkLockS_m : Fn := ⟨2, [.t 4], false,
  .seq (.r [.mv 4 (.c (.d (.i .i64 0))),
    .kill [4]])
  (.seq (.seq (.r [.mv 5 (.c (.d (.i .i64 0)))])
  (.blk 0 (.pre [.keep [5, 1, 0]] (.loop wmarkLockS_l0))))
  (.seq (.r [.mv 51 (.t 1),
    .mv 4 (.t 51),
    .keep [4]])
  (.ret)))⟩
/-- live: [0, 1, 5]; objects: [0] -/
def wmarkIntS_l0 : C :=
  .seq (.seq (.r [.mv 6 (.t 5),
      .mv 7 (.t 0),
      .len 8 (.t 7),
      .bin 9 .lss .num (.t 6) (.t 8),
      .kill [6, 7, 8]])
    (.cond (.t 9)
      (.pre [.kill [9]] (.skip))
      (.pre [.keep [1]] (.ex 0))))
    (.seq (.blk 1 (.seq (.r [.mv 12 (.t 0),
      .mv 13 (.t 5),
      .mv 14 (.t 1),
      .ia 15 1 (.t 12) (.t 13),
      .st 1 (.t 15) (.t 14),
      .keep [5, 1, 0]])
    (.r [.mv 16 (.t 1),
      .bin 17 .add .num (.t 16) (.c (.d (.i .i64 1))),
      .mv 1 (.t 17),
      .kill [16, 17]])))
    (.r [.mv 10 (.t 5),
      .bin 11 .add .num (.t 10) (.c (.d (.i .i64 1))),
      .mv 5 (.t 11),
      .kill [10, 11]]))
def wmarkIntS_m : Fn := ⟨2, [.t 4], false,
  .seq (.r [.mv 4 (.c (.d (.i .i64 0))),
    .kill [4]])
  (.seq (.seq (.r [.mv 5 (.c (.d (.i .i64 0)))])
  (.blk 0 (.pre [.keep [5, 1, 0]] (.loop wmarkIntS_l0))))
  (.seq (.r [.mv 18 (.t 1),
    .mv 4 (.t 18),
    .keep [4]])
  (.ret)))⟩
/-- live: [0, 1, 5]; objects: [] -/
def wheldResS_l0 : C :=
  .seq (.seq (.r [.mv 6 (.t 5),
      .mv 7 (.t 0),
      .len 8 (.t 7),
      .bin 9 .lss .num (.t 6) (.t 8),
      .kill [6, 7, 8]])
    (.cond (.t 9)
      (.pre [.kill [9]] (.skip))
      (.pre [.keep [1]] (.ex 0))))
    (.seq (.blk 1 (.seq (.r [.mv 12 (.t 0),
      .mv 13 (.t 5),
      .ia 14 5 (.t 12) (.t 13),
      .fa 15 (.t 14) 0,
      .ld 16 1 false (.t 15),
      .mv 17 (.t 1),
      .kill [1, 12, 13, 14, 15],
      .call 18 true [] (.c (.clo wheldStringS [])) [(.t 16), (.t 17)],
      .mv 1 (.t 18),
      .keep [5, 1, 0]])
    (.seq (.seq (.r [.mv 19 (.t 1),
      .bin 20 .lss .num (.t 19) (.c (.d (.i .i64 0))),
      .kill [19]])
    (.cond (.t 20)
      (.pre [.keep []] (.seq (.r [.mv 4 (.c (.d (.i .i64 (-1))))])
      (.ret)))
      (.pre [.kill [20]] (.skip))))
    (.seq (.seq (.r [.mv 21 (.t 0),
      .mv 22 (.t 5),
      .ia 23 5 (.t 21) (.t 22),
      .fa 24 (.t 23) 1,
      .ld 25 1 false (.t 24),
      .mv 26 (.t 1),
      .bin 27 .rem .num (.t 26) (.c (.d (.i .i64 3))),
      .kill [21, 22, 23, 24, 26],
      .bin 28 .eql .num (.t 27) (.c (.d (.i .i64 0))),
      .bin 29 .neq .flag (.t 25) (.t 28),
      .keep [29, 5, 1, 0]])
    (.cond (.t 29)
      (.pre [.keep []] (.seq (.r [.mv 4 (.c (.d (.i .i64 (-1))))])
      (.ret)))
      (.pre [.kill [29]] (.skip))))
    (.seq (.r [.mv 30 (.t 1),
      .bin 31 .add .num (.t 30) (.c (.d (.i .i64 1))),
      .mv 1 (.t 31),
      .kill [30, 31]])
    (.seq (.seq (.post (.r [.mv 32 (.t 0),
      .mv 33 (.t 5),
      .ia 34 5 (.t 32) (.t 33),
      .fa 35 (.t 34) 2,
      .ld 36 1 false (.t 35),
      .mv 37 (.t 1),
      .call 38 true [] (.c (.clo wmarkText [])) [(.t 37)],
      .bin 39 .neq .num (.t 36) (.t 38)]) [.keep [39, 5, 1, 0]])
    (.cond (.t 39)
      (.pre [.keep []] (.seq (.r [.mv 4 (.c (.d (.i .i64 (-1))))])
      (.ret)))
      (.pre [.kill [39]] (.skip))))
    (.seq (.r [.mv 40 (.t 1),
      .bin 41 .add .num (.t 40) (.c (.d (.i .i64 1))),
      .mv 1 (.t 41),
      .kill [40, 41]])
    (.seq (.seq (.r [.mv 42 (.t 0),
      .mv 43 (.t 5),
      .ia 44 5 (.t 42) (.t 43),
      .fa 45 (.t 44) 3,
      .ld 46 1 false (.t 45),
      .mv 47 (.t 1),
      .bin 48 .neq .num (.t 46) (.t 47),
      .keep [48, 5, 1, 0]])
    (.cond (.t 48)
      (.pre [.keep []] (.seq (.r [.mv 4 (.c (.d (.i .i64 (-1))))])
      (.ret)))
      (.pre [.kill [48]] (.skip))))
    (.seq (.r [.mv 49 (.t 1),
      .bin 50 .add .num (.t 49) (.c (.d (.i .i64 1))),
      .mv 1 (.t 50),
      .kill [49, 50]])
    (.seq (.r [.mv 51 (.t 0),
      .mv 52 (.t 5),
      .ia 53 5 (.t 51) (.t 52),
      .fa 54 (.t 53) 4,
      .ld 55 1 false (.t 54),
      .mv 56 (.t 1),
      .kill [1, 51, 52, 53, 54],
      .call 57 true [] (.c (.clo wheldPropS [])) [(.t 55), (.t 56)],
      .mv 1 (.t 57),
      .keep [5, 1, 0]])
    (.seq (.r [.mv 58 (.t 1),
      .bin 59 .lss .num (.t 58) (.c (.d (.i .i64 0))),
      .kill [58]])
    (.cond (.t 59)
      (.pre [.keep []] (.seq (.r [.mv 4 (.c (.d (.i .i64 (-1))))])
      (.ret)))
      (.pre [.kill [59]] (.skip))))))))))))))
    (.r [.mv 10 (.t 5),
      .bin 11 .add .num (.t 10) (.c (.d (.i .i64 1))),
      .mv 5 (.t 11),
      .kill [10, 11]]))
def wheldResS_m : Fn := ⟨2, [.t 4], false,
  .seq (.r [.mv 4 (.c (.d (.i .i64 0))),
    .kill [4]])
  (.seq (.seq (.r [.mv 5 (.c (.d (.i .i64 0)))])
  (.blk 0 (.pre [.keep [5, 1, 0]] (.loop wheldResS_l0))))
  (.seq (.r [.mv 60 (.t 1),
    .mv 4 (.t 60),
    .keep [4]])
  (.ret)))⟩
/-- live: [0, 1, 5]; objects: [] -/
def wheldLockS_l0 : C :=
  .seq (.seq (.r [.mv 6 (.t 5),
      .mv 7 (.t 0),
      .len 8 (.t 7),
      .bin 9 .lss .num (.t 6) (.t 8),
      .kill [6, 7, 8]])
    (.cond (.t 9)
      (.pre [.kill [9]] (.skip))
      (.pre [.keep [1]] (.ex 0))))
    (.seq (.blk 1 (.seq (.seq (.r [.mv 12 (.t 0),
      .mv 13 (.t 5),
      .ia 14 5 (.t 12) (.t 13),
      .fa 15 (.t 14) 0,
      .ld 16 1 false (.t 15),
      .mv 17 (.t 1),
      .bin 18 .neq .num (.t 16) (.t 17),
      .keep [18, 5, 1, 0]])
    (.cond (.t 18)
      (.pre [.keep []] (.seq (.r [.mv 4 (.c (.d (.i .i64 (-1))))])
      (.ret)))
      (.pre [.kill [18]] (.skip))))
    (.seq (.r [.mv 19 (.t 1),
      .bin 20 .add .num (.t 19) (.c (.d (.i .i64 1))),
      .mv 1 (.t 20),
      .kill [19, 20]])
    (.seq (.r [.mv 21 (.t 0),
      .mv 22 (.t 5),
      .ia 23 5 (.t 21) (.t 22),
      .fa 24 (.t 23) 1,
      .ld 25 1 false (.t 24),
      .mv 26 (.t 1),
      .kill [1, 21, 22, 23, 24],
      .call 27 true [] (.c (.clo wheldStringS [])) [(.t 25), (.t 26)],
      .mv 1 (.t 27),
      .keep [5, 1, 0]])
    (.seq (.seq (.r [.mv 28 (.t 1),
      .bin 29 .lss .num (.t 28) (.c (.d (.i .i64 0))),
      .kill [28]])
    (.cond (.t 29)
      (.pre [.keep []] (.seq (.r [.mv 4 (.c (.d (.i .i64 (-1))))])
      (.ret)))
      (.pre [.kill [29]] (.skip))))
    (.seq (.seq (.r [.mv 30 (.t 0),
      .mv 31 (.t 5),
      .ia 32 5 (.t 30) (.t 31),
      .fa 33 (.t 32) 2,
      .ld 34 1 false (.t 33),
      .mv 35 (.t 1),
      .bin 36 .rem .num (.t 35) (.c (.d (.i .i64 3))),
      .kill [30, 31, 32, 33, 35],
      .bin 37 .eql .num (.t 36) (.c (.d (.i .i64 0))),
      .bin 38 .neq .flag (.t 34) (.t 37),
      .keep [38, 5, 1, 0]])
    (.cond (.t 38)
      (.pre [.keep []] (.seq (.r [.mv 4 (.c (.d (.i .i64 (-1))))])
      (.ret)))
      (.pre [.kill [38]] (.skip))))
    (.seq (.r [.mv 39 (.t 1),
      .bin 40 .add .num (.t 39) (.c (.d (.i .i64 1))),
      .mv 1 (.t 40),
      .kill [39, 40]])
    (.seq (.seq (.r [.mv 41 (.t 0),
      .mv 42 (.t 5),
      .ia 43 5 (.t 41) (.t 42),
      .fa 44 (.t 43) 3,
      .ld 45 1 false (.t 44),
      .mv 46 (.t 1),
      .bin 47 .rem .num (.t 46) (.c (.d (.i .i64 3))),
      .kill [41, 42, 43, 44, 46],
      .bin 48 .eql .num (.t 47) (.c (.d (.i .i64 0))),
      .bin 49 .neq .flag (.t 45) (.t 48),
      .keep [49, 5, 1, 0]])
    (.cond (.t 49)
      (.pre [.keep []] (.seq (.r [.mv 4 (.c (.d (.i .i64 (-1))))])
      (.ret)))
      (.pre [.kill [49]] (.skip))))
    (.seq (.r [.mv 50 (.t 1),
      .bin 51 .add .num (.t 50) (.c (.d (.i .i64 1))),
      .mv 1 (.t 51),
      .kill [50, 51]])
    (.seq (.seq (.r [.mv 52 (.t 0),
      .mv 53 (.t 5),
      .ia 54 5 (.t 52) (.t 53),
      .fa 55 (.t 54) 4,
      .ld 56 1 false (.t 55),
      .mv 57 (.t 1),
      .bin 58 .neq .num (.t 56) (.t 57),
      .keep [58, 5, 1, 0]])
    (.cond (.t 58)
      (.pre [.keep []] (.seq (.r [.mv 4 (.c (.d (.i .i64 (-1))))])
      (.ret)))
      (.pre [.kill [58]] (.skip))))
    (.r [.mv 59 (.t 1),
      .bin 60 .add .num (.t 59) (.c (.d (.i .i64 1))),
      .mv 1 (.t 60),
      .kill [59, 60]])))))))))))
    (.r [.mv 10 (.t 5),
      .bin 11 .add .num (.t 10) (.c (.d (.i .i64 1))),
      .mv 5 (.t 11),
      .kill [10, 11]]))
def wheldLockS_m : Fn := ⟨2, [.t 4], false,
  .seq (.r [.mv 4 (.c (.d (.i .i64 0))),
    .kill [4]])
  (.seq (.seq (.r [.mv 5 (.c (.d (.i .i64 0)))])
  (.blk 0 (.pre [.keep [5, 1, 0]] (.loop wheldLockS_l0))))
  (.seq (.r [.mv 61 (.t 1),
    .mv 4 (.t 61),
    .keep [4]])
  (.ret)))⟩
/-- live: [0, 1, 5]; objects: [] -/
def wheldIntS_l0 : C :=
  .seq (.seq (.r [.mv 6 (.t 5),
      .mv 7 (.t 0),
      .len 8 (.t 7),
      .bin 9 .lss .num (.t 6) (.t 8),
      .kill [6, 7, 8]])
    (.cond (.t 9)
      (.pre [.kill [9]] (.skip))
      (.pre [.keep [1]] (.ex 0))))
    (.seq (.blk 1 (.seq (.seq (.r [.mv 12 (.t 0),
      .mv 13 (.t 5),
      .ia 14 1 (.t 12) (.t 13),
      .ld 15 1 false (.t 14),
      .mv 16 (.t 1),
      .bin 17 .neq .num (.t 15) (.t 16),
      .keep [17, 5, 1, 0]])
    (.cond (.t 17)
      (.pre [.keep []] (.seq (.r [.mv 4 (.c (.d (.i .i64 (-1))))])
      (.ret)))
      (.pre [.kill [17]] (.skip))))
    (.r [.mv 18 (.t 1),
      .bin 19 .add .num (.t 18) (.c (.d (.i .i64 1))),
      .mv 1 (.t 19),
      .kill [18, 19]])))
    (.r [.mv 10 (.t 5),
      .bin 11 .add .num (.t 10) (.c (.d (.i .i64 1))),
      .mv 5 (.t 11),
      .kill [10, 11]]))
def wheldIntS_m : Fn := ⟨2, [.t 4], false,
  .seq (.r [.mv 4 (.c (.d (.i .i64 0))),
    .kill [4]])
  (.seq (.seq (.r [.mv 5 (.c (.d (.i .i64 0)))])
  (.blk 0 (.pre [.keep [5, 1, 0]] (.loop wheldIntS_l0))))
  (.seq (.r [.mv 20 (.t 1),
    .mv 4 (.t 20),
    .keep [4]])
  (.ret)))⟩
def weqRes_m : Fn := ⟨2, [.t 4], false,
  .seq (.r [.bx 2 TRes true (.t 0),
    .bx 3 TRes true (.t 1),
    .mv 4 (.c (.d (.b false))),
    .keep [3, 2]])
  (.seq (.seq (.r [.fa 5 (.t 2) 0,
    .ld 6 1 false (.t 5),
    .fa 7 (.t 3) 0,
    .ld 8 1 false (.t 7),
    .call 9 true [] (.c (.clo weqStringS [])) [(.t 6), (.t 8)],
    .not 10 (.t 9),
    .keep [10, 3, 2]])
  (.cond (.t 10)
    (.pre [.keep [], .drop [66, 67]] (.seq (.r [.mv 4 (.c (.d (.b false)))])
    (.ret)))
    (.pre [.kill [10]] (.skip))))
  (.seq (.seq (.r [.fa 11 (.t 2) 1,
    .ld 12 1 false (.t 11),
    .fa 13 (.t 3) 1,
    .ld 14 1 false (.t 13),
    .bin 15 .neq .flag (.t 12) (.t 14),
    .keep [15, 3, 2]])
  (.cond (.t 15)
    (.pre [.keep [], .drop [66, 67]] (.seq (.r [.mv 4 (.c (.d (.b false)))])
    (.ret)))
    (.pre [.kill [15]] (.skip))))
  (.seq (.seq (.r [.fa 16 (.t 2) 2,
    .ld 17 1 false (.t 16),
    .fa 18 (.t 3) 2,
    .ld 19 1 false (.t 18),
    .bin 20 .neq .num (.t 17) (.t 19),
    .keep [20, 3, 2]])
  (.cond (.t 20)
    (.pre [.keep [], .drop [66, 67]] (.seq (.r [.mv 4 (.c (.d (.b false)))])
    (.ret)))
    (.pre [.kill [20]] (.skip))))
  (.seq (.seq (.r [.fa 21 (.t 2) 3,
    .ld 22 1 false (.t 21),
    .fa 23 (.t 3) 3,
    .ld 24 1 false (.t 23),
    .bin 25 .neq .num (.t 22) (.t 24),
    .keep [25, 3, 2]])
  (.cond (.t 25)
    (.pre [.keep [], .drop [66, 67]] (.seq (.r [.mv 4 (.c (.d (.b false)))])
    (.ret)))
    (.pre [.kill [25]] (.skip))))
  (.seq (.seq (.r [.fa 26 (.t 2) 4,
    .ld 27 1 false (.t 26),
    .fa 28 (.t 3) 4,
    .ld 29 1 false (.t 28),
    .call 30 true [] (.c (.clo weqPropS [])) [(.t 27), (.t 29)],
    .kill [2, 3, 26, 27, 28, 29],
    .not 31 (.t 30),
    .keep [31],
    .drop [66, 67]])
  (.cond (.t 31)
    (.pre [.keep []] (.seq (.r [.mv 4 (.c (.d (.b false)))])
    (.ret)))
    (.pre [.keep []] (.skip))))
  (.seq (.r [.mv 4 (.c (.d (.b true)))])
  (.ret)))))))⟩
def weqLock_m : Fn := ⟨2, [.t 4], false,
  .seq (.r [.bx 2 TLock true (.t 0),
    .bx 3 TLock true (.t 1),
    .mv 4 (.c (.d (.b false))),
    .keep [3, 2]])
  (.seq (.seq (.r [.fa 5 (.t 2) 0,
    .ld 6 1 false (.t 5),
    .fa 7 (.t 3) 0,
    .ld 8 1 false (.t 7),
    .bin 9 .neq .num (.t 6) (.t 8),
    .keep [9, 3, 2]])
  (.cond (.t 9)
    (.pre [.keep [], .drop [66, 67]] (.seq (.r [.mv 4 (.c (.d (.b false)))])
    (.ret)))
    (.pre [.kill [9]] (.skip))))
  (.seq (.seq (.r [.fa 10 (.t 2) 1,
    .ld 11 1 false (.t 10),
    .fa 12 (.t 3) 1,
    .ld 13 1 false (.t 12),
    .call 14 true [] (.c (.clo weqStringS [])) [(.t 11), (.t 13)],
    .not 15 (.t 14),
    .keep [15, 3, 2]])
  (.cond (.t 15)
    (.pre [.keep [], .drop [66, 67]] (.seq (.r [.mv 4 (.c (.d (.b false)))])
    (.ret)))
    (.pre [.kill [15]] (.skip))))
  (.seq (.seq (.r [.fa 16 (.t 2) 2,
    .ld 17 1 false (.t 16),
    .fa 18 (.t 3) 2,
    .ld 19 1 false (.t 18),
    .bin 20 .neq .flag (.t 17) (.t 19),
    .keep [20, 3, 2]])
  (.cond (.t 20)
    (.pre [.keep [], .drop [66, 67]] (.seq (.r [.mv 4 (.c (.d (.b false)))])
    (.ret)))
    (.pre [.kill [20]] (.skip))))
  (.seq (.seq (.r [.fa 21 (.t 2) 3,
    .ld 22 1 false (.t 21),
    .fa 23 (.t 3) 3,
    .ld 24 1 false (.t 23),
    .bin 25 .neq .flag (.t 22) (.t 24),
    .keep [25, 3, 2]])
  (.cond (.t 25)
    (.pre [.keep [], .drop [66, 67]] (.seq (.r [.mv 4 (.c (.d (.b false)))])
    (.ret)))
    (.pre [.kill [25]] (.skip))))
  (.seq (.seq (.r [.fa 26 (.t 2) 4,
    .ld 27 1 false (.t 26),
    .fa 28 (.t 3) 4,
    .ld 29 1 false (.t 28),
    .bin 30 .neq .num (.t 27) (.t 29),
    .keep [30],
    .drop [66, 67]])
  (.cond (.t 30)
    (.pre [.keep []] (.seq (.r [.mv 4 (.c (.d (.b false)))])
    (.ret)))
    (.pre [.keep []] (.skip))))
  (.seq (.r [.mv 4 (.c (.d (.b true)))])
  (.ret)))))))⟩
/-- live: [0, 1, 5]; objects: [0] -/
def wmarkPropS_l0 : C :=
  .seq (.seq (.r [.mv 6 (.t 5),
      .mv 7 (.t 0),
      .len 8 (.t 7),
      .bin 9 .lss .num (.t 6) (.t 8),
      .kill [6, 7, 8]])
    (.cond (.t 9)
      (.pre [.kill [9]] (.skip))
      (.pre [.keep [1]] (.ex 0))))
    (.seq (.blk 1 (.seq (.r [.mv 12 (.t 0),
      .mv 13 (.t 5),
      .mv 14 (.t 1),
      .call 15 true [] (.c (.clo wmarkText [])) [(.t 14)],
      .ia 16 3 (.t 12) (.t 13),
      .fa 17 (.t 16) 0,
      .st 1 (.t 17) (.t 15),
      .keep [5, 1, 0]])
    (.seq (.r [.mv 18 (.t 1),
      .bin 19 .add .num (.t 18) (.c (.d (.i .i64 1))),
      .mv 1 (.t 19),
      .kill [18, 19]])
    (.seq (.r [.mv 20 (.t 0),
      .mv 21 (.t 5),
      .mv 22 (.t 1),
      .call 23 true [] (.c (.clo wmarkText [])) [(.t 22)],
      .ia 24 3 (.t 20) (.t 21),
      .fa 25 (.t 24) 1,
      .st 1 (.t 25) (.t 23),
      .keep [5, 1, 0]])
    (.seq (.r [.mv 26 (.t 1),
      .bin 27 .add .num (.t 26) (.c (.d (.i .i64 1))),
      .mv 1 (.t 27),
      .kill [26, 27]])
    (.seq (.r [.mv 28 (.t 0),
      .mv 29 (.t 5),
      .mv 30 (.t 1),
      .call 31 true [] (.c (.clo wmarkText [])) [(.t 30)],
      .ia 32 3 (.t 28) (.t 29),
      .fa 33 (.t 32) 2,
      .st 1 (.t 33) (.t 31),
      .keep [5, 1, 0]])
    (.r [.mv 34 (.t 1),
      .bin 35 .add .num (.t 34) (.c (.d (.i .i64 1))),
      .mv 1 (.t 35),
      .kill [34, 35]])))))))
    (.r [.mv 10 (.t 5),
      .bin 11 .add .num (.t 10) (.c (.d (.i .i64 1))),
      .mv 5 (.t 11),
      .kill [10, 11]]))
def wmarkPropS_m : Fn := ⟨2, [.t 4], false,
  .seq (.r [.mv 4 (.c (.d (.i .i64 0))),
    .kill [4]])
  (.seq (.seq (.r [.mv 5 (.c (.d (.i .i64 0)))])
  (.blk 0 (.pre [.keep [5, 1, 0]] (.loop wmarkPropS_l0))))
  (.seq (.r [.mv 36 (.t 1),
    .mv 4 (.t 36),
    .keep [4]])
  (.ret)))⟩
/-- live: [0, 1, 5]; objects: [0] -/
def wmarkStringS_l0 : C :=
  .seq (.seq (.r [.mv 6 (.t 5),
      .mv 7 (.t 0),
      .len 8 (.t 7),
      .bin 9 .lss .num (.t 6) (.t 8),
      .kill [6, 7, 8]])
    (.cond (.t 9)
      (.pre [.kill [9]] (.skip))
      (.pre [.keep [1]] (.ex 0))))
    (.seq (.blk 1 (.seq (.r [.mv 12 (.t 0),
      .mv 13 (.t 5),
      .mv 14 (.t 1),
      .call 15 true [] (.c (.clo wmarkText [])) [(.t 14)],
      .ia 16 1 (.t 12) (.t 13),
      .st 1 (.t 16) (.t 15),
      .keep [5, 1, 0]])
    (.r [.mv 17 (.t 1),
      .bin 18 .add .num (.t 17) (.c (.d (.i .i64 1))),
      .mv 1 (.t 18),
      .kill [17, 18]])))
    (.r [.mv 10 (.t 5),
      .bin 11 .add .num (.t 10) (.c (.d (.i .i64 1))),
      .mv 5 (.t 11),
      .kill [10, 11]]))
def wmarkStringS_m : Fn := ⟨2, [.t 4], false,
  .seq (.r [.mv 4 (.c (.d (.i .i64 0))),
    .kill [4]])
  (.seq (.seq (.r [.mv 5 (.c (.d (.i .i64 0)))])
  (.blk 0 (.pre [.keep [5, 1, 0]] (.loop wmarkStringS_l0))))
  (.seq (.r [.mv 19 (.t 1),
    .mv 4 (.t 19),
    .keep [4]])
  (.ret)))⟩
/-- live: [0, 3]; objects: [] -/
def wmarkText_l0 : C :=
  .seq (.seq (.r [.mv 6 (.t 0),
      .bin 7 .gtr .num (.t 6) (.c (.d (.i .i64 0))),
      .kill [6]])
    (.cond (.t 7)
      (.pre [.kill [7]] (.skip))
      (.pre [.keep [3]] (.ex 0))))
    (.blk 1 (.seq (.r [.mv 8 (.t 0),
      .bin 9 .rem .num (.t 8) (.c (.d (.i .i64 10))),
      .bin 10 .add .num (.c (.d (.i .i64 48))) (.t 9),
      .cvi 11 .u8 (.t 10),
      .bs 12 .u8 false 1 [.d (.u 0)] [(0, (.t 11))],
      .b2s 13 (.t 12),
      .kill [8, 9, 10, 11, 12],
      .mv 14 (.t 3),
      .bin 15 .add .num (.t 13) (.t 14),
      .mv 3 (.t 15),
      .keep [3, 0],
      .drop [76]])
    (.r [.mv 16 (.t 0),
      .bin 17 .quo .num (.t 16) (.c (.d (.i .i64 10))),
      .mv 0 (.t 17),
      .kill [16, 17]])))
def wmarkText_m : Fn := ⟨1, [.t 2], false,
  .seq (.r [.mv 2 (.c (.d (.s []))),
    .kill [2]])
  (.seq (.seq (.r [.mv 4 (.t 0),
    .bin 5 .leq .num (.t 4) (.c (.d (.i .i64 0))),
    .kill [4]])
  (.cond (.t 5)
    (.pre [.keep []] (.seq (.r [.mv 2 (.c (.d (.s [109, 48])))])
    (.ret)))
    (.pre [.kill [5]] (.skip))))
  (.seq (.r [.mv 3 (.c (.d (.s [])))])
  (.seq (.blk 0 (.pre [.keep [3, 0]] (.loop wmarkText_l0)))
  (.seq (.r [.mv 18 (.t 3),
    .bin 19 .add .num (.c (.d (.s [109]))) (.t 18),
    .mv 2 (.t 19),
    .keep [2]])
  (.ret)))))⟩
/-- live: [0, 1, 5]; objects: [] -/
def wheldStringS_l0 : C :=
  .seq (.seq (.r [.mv 6 (.t 5),
      .mv 7 (.t 0),
      .len 8 (.t 7),
      .bin 9 .lss .num (.t 6) (.t 8),
      .kill [6, 7, 8]])
    (.cond (.t 9)
      (.pre [.kill [9]] (.skip))
      (.pre [.keep [1]] (.ex 0))))
    (.seq (.blk 1 (.seq (.seq (.post (.r [.mv 12 (.t 0),
      .mv 13 (.t 5),
      .ia 14 1 (.t 12) (.t 13),
      .ld 15 1 false (.t 14),
      .mv 16 (.t 1),
      .call 17 true [] (.c (.clo wmarkText [])) [(.t 16)],
      .bin 18 .neq .num (.t 15) (.t 17)]) [.keep [18, 5, 1, 0]])
    (.cond (.t 18)
      (.pre [.keep []] (.seq (.r [.mv 4 (.c (.d (.i .i64 (-1))))])
      (.ret)))
      (.pre [.kill [18]] (.skip))))
    (.r [.mv 19 (.t 1),
      .bin 20 .add .num (.t 19) (.c (.d (.i .i64 1))),
      .mv 1 (.t 20),
      .kill [19, 20]])))
    (.r [.mv 10 (.t 5),
      .bin 11 .add .num (.t 10) (.c (.d (.i .i64 1))),
      .mv 5 (.t 11),
      .kill [10, 11]]))
def wheldStringS_m : Fn := ⟨2, [.t 4], false,
  .seq (.r [.mv 4 (.c (.d (.i .i64 0))),
    .kill [4]])
  (.seq (.seq (.r [.mv 5 (.c (.d (.i .i64 0)))])
  (.blk 0 (.pre [.keep [5, 1, 0]] (.loop wheldStringS_l0))))
  (.seq (.r [.mv 21 (.t 1),
    .mv 4 (.t 21),
    .keep [4]])
  (.ret)))⟩
/-- live: [0, 1, 5]; objects: [] -/
def wheldPropS_l0 : C :=
  .seq (.seq (.r [.mv 6 (.t 5),
      .mv 7 (.t 0),
      .len 8 (.t 7),
      .bin 9 .lss .num (.t 6) (.t 8),
      .kill [6, 7, 8]])
    (.cond (.t 9)
      (.pre [.kill [9]] (.skip))
      (.pre [.keep [1]] (.ex 0))))
    (.seq (.blk 1 (.seq (.seq (.post (.r [.mv 12 (.t 0),
      .mv 13 (.t 5),
      .ia 14 3 (.t 12) (.t 13),
      .fa 15 (.t 14) 0,
      .ld 16 1 false (.t 15),
      .mv 17 (.t 1),
      .call 18 true [] (.c (.clo wmarkText [])) [(.t 17)],
      .bin 19 .neq .num (.t 16) (.t 18)]) [.keep [19, 5, 1, 0]])
    (.cond (.t 19)
      (.pre [.keep []] (.seq (.r [.mv 4 (.c (.d (.i .i64 (-1))))])
      (.ret)))
      (.pre [.kill [19]] (.skip))))
    (.seq (.r [.mv 20 (.t 1),
      .bin 21 .add .num (.t 20) (.c (.d (.i .i64 1))),
      .mv 1 (.t 21),
      .kill [20, 21]])
    (.seq (.seq (.post (.r [.mv 22 (.t 0),
      .mv 23 (.t 5),
      .ia 24 3 (.t 22) (.t 23),
      .fa 25 (.t 24) 1,
      .ld 26 1 false (.t 25),
      .mv 27 (.t 1),
      .call 28 true [] (.c (.clo wmarkText [])) [(.t 27)],
      .bin 29 .neq .num (.t 26) (.t 28)]) [.keep [29, 5, 1, 0]])
    (.cond (.t 29)
      (.pre [.keep []] (.seq (.r [.mv 4 (.c (.d (.i .i64 (-1))))])
      (.ret)))
      (.pre [.kill [29]] (.skip))))
    (.seq (.r [.mv 30 (.t 1),
      .bin 31 .add .num (.t 30) (.c (.d (.i .i64 1))),
      .mv 1 (.t 31),
      .kill [30, 31]])
    (.seq (.seq (.post (.r [.mv 32 (.t 0),
      .mv 33 (.t 5),
      .ia 34 3 (.t 32) (.t 33),
      .fa 35 (.t 34) 2,
      .ld 36 1 false (.t 35),
      .mv 37 (.t 1),
      .call 38 true [] (.c (.clo wmarkText [])) [(.t 37)],
      .bin 39 .neq .num (.t 36) (.t 38)]) [.keep [39, 5, 1, 0]])
    (.cond (.t 39)
      (.pre [.keep []] (.seq (.r [.mv 4 (.c (.d (.i .i64 (-1))))])
      (.ret)))
      (.pre [.kill [39]] (.skip))))
    (.r [.mv 40 (.t 1),
      .bin 41 .add .num (.t 40) (.c (.d (.i .i64 1))),
      .mv 1 (.t 41),
      .kill [40, 41]])))))))
    (.r [.mv 10 (.t 5),
      .bin 11 .add .num (.t 10) (.c (.d (.i .i64 1))),
      .mv 5 (.t 11),
      .kill [10, 11]]))
def wheldPropS_m : Fn := ⟨2, [.t 4], false,
  .seq (.r [.mv 4 (.c (.d (.i .i64 0))),
    .kill [4]])
  (.seq (.seq (.r [.mv 5 (.c (.d (.i .i64 0)))])
  (.blk 0 (.pre [.keep [5, 1, 0]] (.loop wheldPropS_l0))))
  (.seq (.r [.mv 42 (.t 1),
    .mv 4 (.t 42),
    .keep [4]])
  (.ret)))⟩
/-- live: [0, 1, 5]; objects: [] -/
def weqPropS_l0 : C :=
  .seq (.seq (.r [.mv 11 (.t 5),
      .mv 12 (.t 0),
      .len 13 (.t 12),
      .bin 14 .lss .num (.t 11) (.t 13),
      .kill [11, 12, 13]])
    (.cond (.t 14)
      (.pre [.kill [14]] (.skip))
      (.pre [.keep []] (.ex 0))))
    (.seq (.blk 1 (.seq (.post (.r [.mv 17 (.t 0),
      .mv 18 (.t 5),
      .ia 19 3 (.t 17) (.t 18),
      .ld 20 3 true (.t 19),
      .mv 21 (.t 1),
      .mv 22 (.t 5),
      .ia 23 3 (.t 21) (.t 22),
      .ld 24 3 true (.t 23),
      .call 25 true [] (.c (.clo weqProp [])) [(.t 20), (.t 24)],
      .not 26 (.t 25)]) [.keep [26, 5, 1, 0]])
    (.cond (.t 26)
      (.pre [.keep []] (.seq (.r [.mv 4 (.c (.d (.b false)))])
      (.ret)))
      (.pre [.kill [26]] (.skip)))))
    (.r [.mv 15 (.t 5),
      .bin 16 .add .num (.t 15) (.c (.d (.i .i64 1))),
      .mv 5 (.t 16),
      .kill [15, 16]]))
def weqPropS_m : Fn := ⟨2, [.t 4], false,
  .seq (.r [.mv 4 (.c (.d (.b false))),
    .kill [4]])
  (.seq (.seq (.r [.mv 6 (.t 0),
    .len 7 (.t 6),
    .mv 8 (.t 1),
    .len 9 (.t 8),
    .bin 10 .neq .num (.t 7) (.t 9),
    .keep [10, 1, 0]])
  (.cond (.t 10)
    (.pre [.keep []] (.seq (.r [.mv 4 (.c (.d (.b false)))])
    (.ret)))
    (.pre [.kill [10]] (.skip))))
  (.seq (.seq (.r [.mv 5 (.c (.d (.i .i64 0)))])
  (.blk 0 (.pre [.keep [5, 1, 0]] (.loop weqPropS_l0))))
  (.seq (.r [.mv 4 (.c (.d (.b true)))])
  (.ret))))⟩
/-- live: [0, 1, 5]; objects: [] -/
def weqStringS_l0 : C :=
  .seq (.seq (.r [.mv 11 (.t 5),
      .mv 12 (.t 0),
      .len 13 (.t 12),
      .bin 14 .lss .num (.t 11) (.t 13),
      .kill [11, 12, 13]])
    (.cond (.t 14)
      (.pre [.kill [14]] (.skip))
      (.pre [.keep []] (.ex 0))))
    (.seq (.blk 1 (.seq (.post (.r [.mv 17 (.t 0),
      .mv 18 (.t 5),
      .ia 19 1 (.t 17) (.t 18),
      .ld 20 1 false (.t 19),
      .mv 21 (.t 1),
      .mv 22 (.t 5),
      .ia 23 1 (.t 21) (.t 22),
      .ld 24 1 false (.t 23),
      .bin 25 .neq .num (.t 20) (.t 24)]) [.keep [25, 5, 1, 0]])
    (.cond (.t 25)
      (.pre [.keep []] (.seq (.r [.mv 4 (.c (.d (.b false)))])
      (.ret)))
      (.pre [.kill [25]] (.skip)))))
    (.r [.mv 15 (.t 5),
      .bin 16 .add .num (.t 15) (.c (.d (.i .i64 1))),
      .mv 5 (.t 16),
      .kill [15, 16]]))
def weqStringS_m : Fn := ⟨2, [.t 4], false,
  .seq (.r [.mv 4 (.c (.d (.b false))),
    .kill [4]])
  (.seq (.seq (.r [.mv 6 (.t 0),
    .len 7 (.t 6),
    .mv 8 (.t 1),
    .len 9 (.t 8),
    .bin 10 .neq .num (.t 7) (.t 9),
    .keep [10, 1, 0]])
  (.cond (.t 10)
    (.pre [.keep []] (.seq (.r [.mv 4 (.c (.d (.b false)))])
    (.ret)))
    (.pre [.kill [10]] (.skip))))
  (.seq (.seq (.r [.mv 5 (.c (.d (.i .i64 0)))])
  (.blk 0 (.pre [.keep [5, 1, 0]] (.loop weqStringS_l0))))
  (.seq (.r [.mv 4 (.c (.d (.b true)))])
  (.ret))))⟩
def weqProp_m : Fn := ⟨2, [.t 4], false,
  .seq (.r [.bx 2 TProp false (.t 0),
    .bx 3 TProp false (.t 1),
    .mv 4 (.c (.d (.b false))),
    .keep [3, 2]])
  (.seq (.seq (.r [.fa 5 (.t 2) 0,
    .ld 6 1 false (.t 5),
    .fa 7 (.t 3) 0,
    .ld 8 1 false (.t 7),
    .bin 9 .neq .num (.t 6) (.t 8),
    .keep [9, 3, 2]])
  (.cond (.t 9)
    (.pre [.keep [], .drop [66, 67]] (.seq (.r [.mv 4 (.c (.d (.b false)))])
    (.ret)))
    (.pre [.kill [9]] (.skip))))
  (.seq (.seq (.r [.fa 10 (.t 2) 1,
    .ld 11 1 false (.t 10),
    .fa 12 (.t 3) 1,
    .ld 13 1 false (.t 12),
    .bin 14 .neq .num (.t 11) (.t 13),
    .keep [14, 3, 2]])
  (.cond (.t 14)
    (.pre [.keep [], .drop [66, 67]] (.seq (.r [.mv 4 (.c (.d (.b false)))])
    (.ret)))
    (.pre [.kill [14]] (.skip))))
  (.seq (.seq (.r [.fa 15 (.t 2) 2,
    .ld 16 1 false (.t 15),
    .fa 17 (.t 3) 2,
    .ld 18 1 false (.t 17),
    .bin 19 .neq .num (.t 16) (.t 18),
    .keep [19],
    .drop [66, 67]])
  (.cond (.t 19)
    (.pre [.keep []] (.seq (.r [.mv 4 (.c (.d (.b false)))])
    (.ret)))
    (.pre [.keep []] (.skip))))
  (.seq (.r [.mv 4 (.c (.d (.b true)))])
  (.ret)))))⟩
def tabL : List (Nat × Fn) := [(wFnExactWorldNew, wFnExactWorldNew_m), (sWorldNew, sWorldNew_m), (iWorldNew, iWorldNew_m), (weqWorld, weqWorld_m), (wmarkWorld, wmarkWorld_m), (wheldWorld, wheldWorld_m), (sl1In, sl1In_m), (sSrvNew, sSrvNew_m), (iin, iin_m), (iSrvNew, iSrvNew_m), (weqSrv, weqSrv_m), (weqWireS, weqWireS_m), (weqByteSS, weqByteSS_m), (weqByteS, weqByteS_m), (wmarkSrv, wmarkSrv_m), (wmarkWireS, wmarkWireS_m), (wmarkByteSS, wmarkByteSS_m), (wmarkByteS, wmarkByteS_m), (wheldSrv, wheldSrv_m), (wheldWireS, wheldWireS_m), (wheldByteSS, wheldByteSS_m), (wheldByteS, wheldByteS_m), (weqResS, weqResS_m), (weqLockS, weqLockS_m), (weqIntS, weqIntS_m), (weqWire, weqWire_m), (wmarkResS, wmarkResS_m), (wmarkLockS, wmarkLockS_m), (wmarkIntS, wmarkIntS_m), (wheldResS, wheldResS_m), (wheldLockS, wheldLockS_m), (wheldIntS, wheldIntS_m), (weqRes, weqRes_m), (weqLock, weqLock_m), (wmarkPropS, wmarkPropS_m), (wmarkStringS, wmarkStringS_m), (wmarkText, wmarkText_m), (wheldStringS, wheldStringS_m), (wheldPropS, wheldPropS_m), (weqPropS, weqPropS_m), (weqStringS, weqStringS_m), (weqProp, weqProp_m)]
end Go.Proofs.YtfklggpopffkjaaK
