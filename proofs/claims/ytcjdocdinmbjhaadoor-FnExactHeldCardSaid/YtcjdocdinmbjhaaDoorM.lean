import Derived.Test.YtcjdocdinmbjhaaDoorJ24
import Derived.Test.YtcjdocdinmbjhaaDoorProg
import Derived.KernelRfl
set_option linter.unusedVariables false
set_option linter.unusedSimpArgs false
namespace Go.Proofs.YtcjdocdinmbjhaaDoorK
open Go.RowKit
def wFnExactHeld : Nat := 3
def wszSrv : Nat := 7
def sHeld : Nat := 8
def wtoSrv : Nat := 9
def iHeld : Nat := 10
def weqSrv : Nat := 11
def wszResS : Nat := 37
def wszLockS : Nat := 38
def wszIntS : Nat := 39
def sTagAt : Nat := 40
def wtoResS : Nat := 41
def wtoLockS : Nat := 42
def wtoIntS : Nat := 43
def iTagAt : Nat := 44
def weqResS : Nat := 45
def weqLockS : Nat := 46
def weqIntS : Nat := 47
def wszRes : Nat := 75
def wszLock : Nat := 76
def sTagText : Nat := 57
def sFindRes : Nat := 77
def wtoRes : Nat := 78
def wtoLock : Nat := 79
def iTagText : Nat := 80
def iFindRes : Nat := 81
def weqRes : Nat := 82
def weqLock : Nat := 83
def wszStringS : Nat := 17
def wszPropS : Nat := 100
def sNumText : Nat := 91
def sSamePath : Nat := 90
def wtoStringS : Nat := 19
def wtoPropS : Nat := 101
def iNumText : Nat := 102
def iSamePath : Nat := 92
def weqStringS : Nat := 22
def weqPropS : Nat := 103
def wszProp : Nat := 111
def wtoProp : Nat := 112
def weqProp : Nat := 114
def x_strconv_Itoa : Nat := 113
abbrev TProp : T := .pr .str (.pr .str .str)
abbrev TRes : T := .pr (.sl .str) (.pr .bool (.pr .str (.pr (.int .i64) (.sl TProp))))
abbrev TLock : T := .pr (.int .i64) (.pr (.sl .str) (.pr .bool (.pr .bool (.int .i64))))
abbrev TSrv : T := .pr (.sl TRes) (.pr (.sl TLock) (.pr (.int .i64) (.pr (.int .i64) (.pr (.sl (.int .i64)) (.sl (.int .i64))))))
def wFnExactHeld_m : Fn := ⟨1, [.t 2], false,
  .seq (.r [.bx 1 TSrv true (.t 0),
    .mv 2 (.c (.d (.b false))),
    .keep [1]])
  (.seq (.r [.mv 3 (.c (.d (.i .i64 1048576)))])
  (.seq (.r [.ld 7 6 true (.t 1),
    .mv 8 (.t 3),
    .call 9 true [] (.c (.clo wszSrv [])) [(.t 7), (.t 8)],
    .mv 3 (.t 9),
    .keep [3, 1]])
  (.seq (.seq (.r [.mv 10 (.t 3),
    .bin 11 .lss .num (.t 10) (.c (.d (.i .i64 0))),
    .kill [3, 10]])
  (.cond (.t 11)
    (.pre [.keep [], .drop [65]] (.seq (.r [.mv 2 (.c (.d (.b true)))])
    (.ret)))
    (.pre [.kill [11]] (.skip))))
  (.seq (.r [.ld 12 6 true (.t 1),
    .call 13 true [] (.c (.clo wtoSrv [])) [(.t 12)],
    .call 14 true [] (.c (.clo sHeld [])) [(.t 13)],
    .mv 4 (.t 14),
    .keep [4, 1]])
  (.seq (.r [.ld 15 6 true (.t 1),
    .call 16 false [] (.c (.clo wtoSrv [])) [(.t 15)],
    .al 5 TSrv false,
    .st 6 (.t 5) (.t 16),
    .kill [15, 16],
    .drop [17064, 17065, 17068, 17069]])
  (.seq (.r [.ld 17 6 true (.t 5),
    .call 18 true [] (.c (.clo iHeld [])) [(.t 17)],
    .mv 6 (.t 18),
    .kill [17, 18]])
  (.seq (.seq (.r [.mv 19 (.t 6),
    .mv 20 (.t 4),
    .bin 21 .neq .flag (.t 19) (.t 20),
    .keep [21, 5, 1]])
  (.cond (.t 21)
    (.pre [.keep [], .drop [65, 69]] (.seq (.r [.mv 2 (.c (.d (.b false)))])
    (.ret)))
    (.pre [.kill [21]] (.skip))))
  (.seq (.seq (.post (.r [.ld 22 6 true (.t 5),
    .ld 23 6 true (.t 1),
    .call 24 true [] (.c (.clo wtoSrv [])) [(.t 23)],
    .call 25 true [] (.c (.clo weqSrv [])) [(.t 22), (.t 24)],
    .not 26 (.t 25)]) [.keep [26], .drop [65, 69]])
  (.cond (.t 26)
    (.pre [.keep []] (.seq (.r [.mv 2 (.c (.d (.b false)))])
    (.ret)))
    (.pre [.keep []] (.skip))))
  (.seq (.r [.mv 2 (.c (.d (.b true)))])
  (.ret))))))))))⟩
def wszSrv_m : Fn := ⟨2, [.t 4], false,
  .seq (.r [.bx 2 TSrv true (.t 0),
    .mv 4 (.c (.d (.i .i64 0))),
    .kill [0, 4]])
  (.seq (.r [.fa 5 (.t 2) 0,
    .ld 6 1 false (.t 5),
    .mv 7 (.t 1),
    .call 8 true [] (.c (.clo wszResS [])) [(.t 6), (.t 7)],
    .mv 1 (.t 8),
    .keep [2, 1]])
  (.seq (.seq (.r [.mv 9 (.t 1),
    .bin 10 .lss .num (.t 9) (.c (.d (.i .i64 0))),
    .kill [9]])
  (.cond (.t 10)
    (.pre [.keep [], .drop [66]] (.seq (.r [.mv 4 (.c (.d (.i .i64 (-1))))])
    (.ret)))
    (.pre [.kill [10]] (.skip))))
  (.seq (.r [.fa 11 (.t 2) 1,
    .ld 12 1 false (.t 11),
    .mv 13 (.t 1),
    .call 14 true [] (.c (.clo wszLockS [])) [(.t 12), (.t 13)],
    .mv 1 (.t 14),
    .keep [2, 1]])
  (.seq (.seq (.r [.mv 15 (.t 1),
    .bin 16 .lss .num (.t 15) (.c (.d (.i .i64 0))),
    .kill [15]])
  (.cond (.t 16)
    (.pre [.keep [], .drop [66]] (.seq (.r [.mv 4 (.c (.d (.i .i64 (-1))))])
    (.ret)))
    (.pre [.kill [16]] (.skip))))
  (.seq (.r [.fa 17 (.t 2) 4,
    .ld 18 1 false (.t 17),
    .mv 19 (.t 1),
    .call 20 true [] (.c (.clo wszIntS [])) [(.t 18), (.t 19)],
    .mv 1 (.t 20),
    .keep [2, 1]])
  (.seq (.seq (.r [.mv 21 (.t 1),
    .bin 22 .lss .num (.t 21) (.c (.d (.i .i64 0))),
    .kill [21]])
  (.cond (.t 22)
    (.pre [.keep [], .drop [66]] (.seq (.r [.mv 4 (.c (.d (.i .i64 (-1))))])
    (.ret)))
    (.pre [.kill [22]] (.skip))))
  (.seq (.r [.fa 23 (.t 2) 5,
    .ld 24 1 false (.t 23),
    .mv 25 (.t 1),
    .call 26 true [] (.c (.clo wszIntS [])) [(.t 24), (.t 25)],
    .kill [1, 2, 23, 24, 25],
    .mv 1 (.t 26),
    .keep [1],
    .drop [66]])
  (.seq (.seq (.r [.mv 27 (.t 1),
    .bin 28 .lss .num (.t 27) (.c (.d (.i .i64 0))),
    .kill [27]])
  (.cond (.t 28)
    (.pre [.keep []] (.seq (.r [.mv 4 (.c (.d (.i .i64 (-1))))])
    (.ret)))
    (.pre [.kill [28]] (.skip))))
  (.seq (.r [.mv 29 (.t 1),
    .mv 4 (.t 29),
    .keep [4]])
  (.ret))))))))))⟩
/-- live: [1, 3]; objects: [65] -/
def sHeld_l0 : C :=
  .seq (.seq (.r [.mv 6 (.t 3),
      .fa 7 (.t 1) 1,
      .ld 8 1 false (.t 7),
      .len 9 (.t 8),
      .bin 10 .lss .num (.t 6) (.t 9),
      .keep [10, 3, 1]])
    (.cond (.t 10)
      (.pre [.kill [10]] (.skip))
      (.pre [.keep [], .drop [65]] (.ex 0))))
    (.seq (.blk 1 (.seq (.post (.r [.ld 14 6 true (.t 1),
      .fa 15 (.t 1) 1,
      .ld 16 1 false (.t 15),
      .mv 17 (.t 3),
      .ia 18 5 (.t 16) (.t 17),
      .fa 19 (.t 18) 1,
      .ld 20 1 false (.t 19),
      .call 21 true [] (.c (.clo sTagAt [])) [(.t 14), (.t 20)],
      .mv 13 (.t 21),
      .ext 22 (.t 13) 0,
      .ext 23 (.t 13) 1,
      .mv 4 (.t 22),
      .mv 5 (.t 23)]) [.keep [5, 3, 1]])
    (.seq (.r [.mv 24 (.t 5),
      .not 25 (.t 24),
      .kill [5, 24]])
    (.cond (.t 25)
      (.pre [.keep [], .drop [65]] (.seq (.r [.mv 2 (.c (.d (.b false)))])
      (.ret)))
      (.pre [.kill [25]] (.skip))))))
    (.r [.mv 11 (.t 3),
      .bin 12 .add .num (.t 11) (.c (.d (.i .i64 1))),
      .mv 3 (.t 12),
      .kill [11, 12]]))
def sHeld_m : Fn := ⟨1, [.t 2], false,
  .seq (.r [.bx 1 TSrv true (.t 0),
    .mv 2 (.c (.d (.b false))),
    .keep [1]])
  (.seq (.seq (.r [.mv 3 (.c (.d (.i .i64 0)))])
  (.blk 0 (.pre [.keep [3, 1]] (.loop sHeld_l0))))
  (.seq (.r [.mv 2 (.c (.d (.b true)))])
  (.ret)))⟩
def wtoSrv_m : Fn := ⟨1, [.cell 2 6 true], false,
  .seq (.r [.bx 1 TSrv true (.t 0),
    .al 2 TSrv false,
    .kill [0]])
  (.seq (.r [.al 3 TSrv false])
  (.seq (.r [.fa 4 (.t 1) 0,
    .ld 5 1 false (.t 4),
    .call 6 false [] (.c (.clo wtoResS [])) [(.t 5)],
    .fa 7 (.t 3) 0,
    .st 1 (.t 7) (.t 6),
    .keep [3, 2, 1],
    .drop [7064]])
  (.seq (.r [.fa 8 (.t 1) 1,
    .ld 9 1 false (.t 8),
    .call 10 false [] (.c (.clo wtoLockS [])) [(.t 9)],
    .fa 11 (.t 3) 1,
    .st 1 (.t 11) (.t 10),
    .keep [3, 2, 1],
    .drop [11064]])
  (.seq (.r [.fa 12 (.t 1) 2,
    .ld 13 1 false (.t 12),
    .fa 14 (.t 3) 2,
    .st 1 (.t 14) (.t 13),
    .kill [12, 13, 14]])
  (.seq (.r [.fa 15 (.t 1) 3,
    .ld 16 1 false (.t 15),
    .fa 17 (.t 3) 3,
    .st 1 (.t 17) (.t 16),
    .kill [15, 16, 17]])
  (.seq (.r [.fa 18 (.t 1) 4,
    .ld 19 1 false (.t 18),
    .call 20 false [] (.c (.clo wtoIntS [])) [(.t 19)],
    .fa 21 (.t 3) 4,
    .st 1 (.t 21) (.t 20),
    .keep [3, 2, 1],
    .drop [21064]])
  (.seq (.r [.fa 22 (.t 1) 5,
    .ld 23 1 false (.t 22),
    .call 24 false [] (.c (.clo wtoIntS [])) [(.t 23)],
    .fa 25 (.t 3) 5,
    .st 1 (.t 25) (.t 24),
    .keep [3, 2],
    .drop [65, 25064]])
  (.seq (.r [.ldt 26 6 true (.t 3),
    .st 6 (.t 2) (.t 26),
    .keep [2],
    .drop [67, 27064, 27065, 27068, 27069]])
  (.ret)))))))))⟩
/-- live: [1, 8, 9, 10]; objects: [65] -/
def iHeld_l0 : C :=
  .seq (.r [.bin 11 .lss .num (.t 10) (.t 9)])
    (.seq (.cond (.t 11)
      (.pre [.kill [11]] (.skip))
      (.pre [.keep [], .drop [65]] (.ex 0)))
    (.seq (.blk 1 (.seq (.r [.ia 12 5 (.t 8) (.t 10),
      .ld 13 5 true (.t 12),
      .al 4 TLock true,
      .st 5 (.t 4) (.t 13),
      .kill [12, 13]])
    (.seq (.r [.ld 15 6 true (.t 1),
      .fa 16 (.t 4) 1,
      .ld 17 1 false (.t 16),
      .call 18 true [] (.c (.clo iTagAt [])) [(.t 15), (.t 17)],
      .mv 14 (.t 18),
      .kill [4, 15, 16, 17, 18],
      .ext 19 (.t 14) 0,
      .ext 20 (.t 14) 1,
      .mv 5 (.t 19),
      .mv 6 (.t 20),
      .keep [10, 9, 8, 6, 1],
      .drop [68]])
    (.seq (.r [.mv 21 (.t 6),
      .not 22 (.t 21),
      .kill [6, 21]])
    (.cond (.t 22)
      (.pre [.keep [], .drop [65]] (.seq (.r [.mv 2 (.c (.d (.b false)))])
      (.ret)))
      (.pre [.kill [22]] (.skip)))))))
    (.r [.bin 23 .add .num (.t 10) (.c (.d (.i .i64 1))),
      .mv 10 (.t 23),
      .kill [23]])))
def iHeld_m : Fn := ⟨1, [.t 2], false,
  .seq (.r [.bx 1 TSrv true (.t 0),
    .mv 2 (.c (.d (.b false))),
    .keep [1]])
  (.seq (.seq (.r [.fa 7 (.t 1) 1,
    .ld 8 1 false (.t 7),
    .len 9 (.t 8),
    .mv 10 (.c (.d (.i .i64 0))),
    .kill [7]])
  (.blk 0 (.pre [.keep [10, 9, 8, 1]] (.loop iHeld_l0))))
  (.seq (.r [.mv 2 (.c (.d (.b true)))])
  (.ret)))⟩
def weqSrv_m : Fn := ⟨2, [.t 4], false,
  .seq (.r [.bx 2 TSrv true (.t 0),
    .bx 3 TSrv true (.t 1),
    .mv 4 (.c (.d (.b false))),
    .keep [3, 2]])
  (.seq (.seq (.r [.fa 5 (.t 2) 0,
    .ld 6 1 false (.t 5),
    .fa 7 (.t 3) 0,
    .ld 8 1 false (.t 7),
    .call 9 true [] (.c (.clo weqResS [])) [(.t 6), (.t 8)],
    .not 10 (.t 9),
    .keep [10, 3, 2]])
  (.cond (.t 10)
    (.pre [.keep [], .drop [66, 67]] (.seq (.r [.mv 4 (.c (.d (.b false)))])
    (.ret)))
    (.pre [.kill [10]] (.skip))))
  (.seq (.seq (.r [.fa 11 (.t 2) 1,
    .ld 12 1 false (.t 11),
    .fa 13 (.t 3) 1,
    .ld 14 1 false (.t 13),
    .call 15 true [] (.c (.clo weqLockS [])) [(.t 12), (.t 14)],
    .not 16 (.t 15),
    .keep [16, 3, 2]])
  (.cond (.t 16)
    (.pre [.keep [], .drop [66, 67]] (.seq (.r [.mv 4 (.c (.d (.b false)))])
    (.ret)))
    (.pre [.kill [16]] (.skip))))
  (.seq (.seq (.r [.fa 17 (.t 2) 2,
    .ld 18 1 false (.t 17),
    .fa 19 (.t 3) 2,
    .ld 20 1 false (.t 19),
    .bin 21 .neq .num (.t 18) (.t 20),
    .keep [21, 3, 2]])
  (.cond (.t 21)
    (.pre [.keep [], .drop [66, 67]] (.seq (.r [.mv 4 (.c (.d (.b false)))])
    (.ret)))
    (.pre [.kill [21]] (.skip))))
  (.seq (.seq (.r [.fa 22 (.t 2) 3,
    .ld 23 1 false (.t 22),
    .fa 24 (.t 3) 3,
    .ld 25 1 false (.t 24),
    .bin 26 .neq .num (.t 23) (.t 25),
    .keep [26, 3, 2]])
  (.cond (.t 26)
    (.pre [.keep [], .drop [66, 67]] (.seq (.r [.mv 4 (.c (.d (.b false)))])
    (.ret)))
    (.pre [.kill [26]] (.skip))))
  (.seq (.seq (.r [.fa 27 (.t 2) 4,
    .ld 28 1 false (.t 27),
    .fa 29 (.t 3) 4,
    .ld 30 1 false (.t 29),
    .call 31 true [] (.c (.clo weqIntS [])) [(.t 28), (.t 30)],
    .not 32 (.t 31),
    .keep [32, 3, 2]])
  (.cond (.t 32)
    (.pre [.keep [], .drop [66, 67]] (.seq (.r [.mv 4 (.c (.d (.b false)))])
    (.ret)))
    (.pre [.kill [32]] (.skip))))
  (.seq (.seq (.r [.fa 33 (.t 2) 5,
    .ld 34 1 false (.t 33),
    .fa 35 (.t 3) 5,
    .ld 36 1 false (.t 35),
    .call 37 true [] (.c (.clo weqIntS [])) [(.t 34), (.t 36)],
    .kill [2, 3, 33, 34, 35, 36],
    .not 38 (.t 37),
    .keep [38],
    .drop [66, 67]])
  (.cond (.t 38)
    (.pre [.keep []] (.seq (.r [.mv 4 (.c (.d (.b false)))])
    (.ret)))
    (.pre [.keep []] (.skip))))
  (.seq (.r [.mv 4 (.c (.d (.b true)))])
  (.ret))))))))⟩
/-- live: [0, 1, 5]; objects: [] -/
def wszResS_l0 : C :=
  .seq (.seq (.r [.mv 12 (.t 5),
      .mv 13 (.t 0),
      .len 14 (.t 13),
      .bin 15 .lss .num (.t 12) (.t 14),
      .kill [12, 13, 14]])
    (.cond (.t 15)
      (.pre [.kill [15]] (.skip))
      (.pre [.keep [1]] (.ex 0))))
    (.seq (.blk 1 (.seq (.r [.mv 18 (.t 0),
      .mv 19 (.t 5),
      .ia 20 5 (.t 18) (.t 19),
      .ld 21 5 true (.t 20),
      .mv 22 (.t 1),
      .call 23 true [] (.c (.clo wszRes [])) [(.t 21), (.t 22)],
      .kill [1, 18, 19, 20, 21, 22],
      .mv 1 (.t 23),
      .keep [5, 1, 0]])
    (.seq (.r [.mv 24 (.t 1),
      .bin 25 .lss .num (.t 24) (.c (.d (.i .i64 0))),
      .kill [24]])
    (.cond (.t 25)
      (.pre [.keep []] (.seq (.r [.mv 4 (.c (.d (.i .i64 (-1))))])
      (.ret)))
      (.pre [.kill [25]] (.skip))))))
    (.r [.mv 16 (.t 5),
      .bin 17 .add .num (.t 16) (.c (.d (.i .i64 1))),
      .mv 5 (.t 17),
      .kill [16, 17]]))
def wszResS_m : Fn := ⟨2, [.t 4], false,
  .seq (.r [.mv 4 (.c (.d (.i .i64 0))),
    .kill [4]])
  (.seq (.r [.mv 6 (.t 1),
    .mv 7 (.t 0),
    .len 8 (.t 7),
    .bin 9 .sub .num (.t 6) (.t 8),
    .mv 1 (.t 9),
    .keep [1, 0]])
  (.seq (.seq (.r [.mv 10 (.t 1),
    .bin 11 .lss .num (.t 10) (.c (.d (.i .i64 0))),
    .kill [10]])
  (.cond (.t 11)
    (.pre [.keep []] (.seq (.r [.mv 4 (.c (.d (.i .i64 (-1))))])
    (.ret)))
    (.pre [.kill [11]] (.skip))))
  (.seq (.seq (.r [.mv 5 (.c (.d (.i .i64 0)))])
  (.blk 0 (.pre [.keep [5, 1, 0]] (.loop wszResS_l0))))
  (.seq (.r [.mv 26 (.t 1),
    .mv 4 (.t 26),
    .keep [4]])
  (.ret)))))⟩
/-- live: [0, 1, 5]; objects: [] -/
def wszLockS_l0 : C :=
  .seq (.seq (.r [.mv 12 (.t 5),
      .mv 13 (.t 0),
      .len 14 (.t 13),
      .bin 15 .lss .num (.t 12) (.t 14),
      .kill [12, 13, 14]])
    (.cond (.t 15)
      (.pre [.kill [15]] (.skip))
      (.pre [.keep [1]] (.ex 0))))
    (.seq (.blk 1 (.seq (.r [.mv 18 (.t 0),
      .mv 19 (.t 5),
      .ia 20 5 (.t 18) (.t 19),
      .ld 21 5 true (.t 20),
      .mv 22 (.t 1),
      .call 23 true [] (.c (.clo wszLock [])) [(.t 21), (.t 22)],
      .kill [1, 18, 19, 20, 21, 22],
      .mv 1 (.t 23),
      .keep [5, 1, 0]])
    (.seq (.r [.mv 24 (.t 1),
      .bin 25 .lss .num (.t 24) (.c (.d (.i .i64 0))),
      .kill [24]])
    (.cond (.t 25)
      (.pre [.keep []] (.seq (.r [.mv 4 (.c (.d (.i .i64 (-1))))])
      (.ret)))
      (.pre [.kill [25]] (.skip))))))
    (.r [.mv 16 (.t 5),
      .bin 17 .add .num (.t 16) (.c (.d (.i .i64 1))),
      .mv 5 (.t 17),
      .kill [16, 17]]))
def wszLockS_m : Fn := ⟨2, [.t 4], false,
  .seq (.r [.mv 4 (.c (.d (.i .i64 0))),
    .kill [4]])
  (.seq (.r [.mv 6 (.t 1),
    .mv 7 (.t 0),
    .len 8 (.t 7),
    .bin 9 .sub .num (.t 6) (.t 8),
    .mv 1 (.t 9),
    .keep [1, 0]])
  (.seq (.seq (.r [.mv 10 (.t 1),
    .bin 11 .lss .num (.t 10) (.c (.d (.i .i64 0))),
    .kill [10]])
  (.cond (.t 11)
    (.pre [.keep []] (.seq (.r [.mv 4 (.c (.d (.i .i64 (-1))))])
    (.ret)))
    (.pre [.kill [11]] (.skip))))
  (.seq (.seq (.r [.mv 5 (.c (.d (.i .i64 0)))])
  (.blk 0 (.pre [.keep [5, 1, 0]] (.loop wszLockS_l0))))
  (.seq (.r [.mv 26 (.t 1),
    .mv 4 (.t 26),
    .keep [4]])
  (.ret)))))⟩
def wszIntS_m : Fn := ⟨2, [.t 4], false,
  .seq (.r [.mv 4 (.c (.d (.i .i64 0))),
    .kill [4]])
  (.seq (.r [.mv 5 (.t 1),
    .mv 6 (.t 0),
    .len 7 (.t 6),
    .bin 8 .sub .num (.t 5) (.t 7),
    .kill [0, 1, 5, 6, 7],
    .mv 1 (.t 8),
    .keep [1]])
  (.seq (.seq (.r [.mv 9 (.t 1),
    .bin 10 .lss .num (.t 9) (.c (.d (.i .i64 0))),
    .kill [9]])
  (.cond (.t 10)
    (.pre [.keep []] (.seq (.r [.mv 4 (.c (.d (.i .i64 (-1))))])
    (.ret)))
    (.pre [.kill [10]] (.skip))))
  (.seq (.r [.mv 11 (.t 1),
    .mv 4 (.t 11),
    .keep [4]])
  (.ret))))⟩
def sTagAt_m : Fn := ⟨2, [.t 4, .t 5], false,
  .seq (.r [.bx 2 TSrv true (.t 0),
    .mv 4 (.c (.d (.s []))),
    .mv 5 (.c (.d (.b false))),
    .keep [2, 1]])
  (.seq (.seq (.r [.mv 7 (.t 1),
    .len 8 (.t 7),
    .bin 9 .eql .num (.t 8) (.c (.d (.i .i64 0))),
    .kill [7, 8]])
  (.cond (.t 9)
    (.pre [.keep [], .drop [66]] (.seq (.r [.call 10 true [] (.c (.clo sTagText [])) [(.c (.d (.i .i64 0)))],
      .mv 4 (.t 10),
      .mv 5 (.c (.d (.b true))),
      .kill [10]])
    (.ret)))
    (.pre [.kill [9]] (.skip))))
  (.seq (.r [.fa 11 (.t 2) 0,
    .ld 12 1 false (.t 11),
    .mv 13 (.t 1),
    .call 14 true [] (.c (.clo sFindRes [])) [(.t 12), (.t 13)],
    .mv 6 (.t 14),
    .keep [6, 2]])
  (.seq (.seq (.r [.mv 15 (.t 6),
    .bin 16 .lss .num (.t 15) (.c (.d (.i .i64 0))),
    .kill [15]])
  (.cond (.t 16)
    (.pre [.keep [], .drop [66]] (.seq (.r [.mv 4 (.c (.d (.s []))),
      .mv 5 (.c (.d (.b false)))])
    (.ret)))
    (.pre [.kill [16]] (.skip))))
  (.seq (.r [.fa 17 (.t 2) 0,
    .ld 18 1 false (.t 17),
    .mv 19 (.t 6),
    .ia 20 5 (.t 18) (.t 19),
    .kill [2, 6, 17, 18, 19],
    .fa 21 (.t 20) 3,
    .ld 22 1 false (.t 21),
    .call 23 true [] (.c (.clo sTagText [])) [(.t 22)],
    .mv 4 (.t 23),
    .mv 5 (.c (.d (.b true))),
    .keep [5, 4],
    .drop [66]])
  (.ret)))))⟩
/-- live: [0, 3, 4]; objects: [71] -/
def wtoResS_l0 : C :=
  .seq (.seq (.r [.mv 8 (.t 4),
      .mv 9 (.t 0),
      .len 10 (.t 9),
      .bin 11 .lss .num (.t 8) (.t 10),
      .kill [8, 9, 10]])
    (.cond (.t 11)
      (.pre [.kill [11]] (.skip))
      (.pre [.keep [3]] (.ex 0))))
    (.seq (.blk 1 (.r [.mv 14 (.t 3),
      .mv 15 (.t 4),
      .mv 16 (.t 0),
      .mv 17 (.t 4),
      .ia 18 5 (.t 16) (.t 17),
      .ld 19 5 true (.t 18),
      .call 20 false [] (.c (.clo wtoRes [])) [(.t 19)],
      .ia 21 5 (.t 14) (.t 15),
      .kill [14, 15, 16, 17, 18, 19],
      .st 5 (.t 21) (.t 20),
      .keep [4, 3, 0],
      .drop [21064, 21068]]))
    (.r [.mv 12 (.t 4),
      .bin 13 .add .num (.t 12) (.c (.d (.i .i64 1))),
      .mv 4 (.t 13),
      .kill [12, 13]]))
def wtoResS_m : Fn := ⟨1, [.t 2], false,
  .seq (.r [.mv 2 (.c (.nil TRes)),
    .opn 2 2 false,
    .kill [2],
    .drop [66]])
  (.seq (.r [.mv 5 (.t 0),
    .len 6 (.t 5),
    .mk 7 TRes 80 (.t 6),
    .mv 3 (.t 7),
    .keep [3, 0]])
  (.seq (.seq (.r [.mv 4 (.c (.d (.i .i64 0)))])
  (.blk 0 (.pre [.keep [4, 3, 0]] (.loop wtoResS_l0))))
  (.seq (.r [.mv 22 (.t 3),
    .mv 2 (.t 22),
    .ren 71 66,
    .keep [2],
    .drop [71]])
  (.ret))))⟩
/-- live: [0, 3, 4]; objects: [71] -/
def wtoLockS_l0 : C :=
  .seq (.seq (.r [.mv 8 (.t 4),
      .mv 9 (.t 0),
      .len 10 (.t 9),
      .bin 11 .lss .num (.t 8) (.t 10),
      .kill [8, 9, 10]])
    (.cond (.t 11)
      (.pre [.kill [11]] (.skip))
      (.pre [.keep [3]] (.ex 0))))
    (.seq (.blk 1 (.r [.mv 14 (.t 3),
      .mv 15 (.t 4),
      .mv 16 (.t 0),
      .mv 17 (.t 4),
      .ia 18 5 (.t 16) (.t 17),
      .ld 19 5 true (.t 18),
      .call 20 false [] (.c (.clo wtoLock [])) [(.t 19)],
      .ia 21 5 (.t 14) (.t 15),
      .kill [14, 15, 16, 17, 18, 19],
      .st 5 (.t 21) (.t 20),
      .keep [4, 3, 0],
      .drop [21065]]))
    (.r [.mv 12 (.t 4),
      .bin 13 .add .num (.t 12) (.c (.d (.i .i64 1))),
      .mv 4 (.t 13),
      .kill [12, 13]]))
def wtoLockS_m : Fn := ⟨1, [.t 2], false,
  .seq (.r [.mv 2 (.c (.nil TLock)),
    .opn 2 2 false,
    .kill [2],
    .drop [66]])
  (.seq (.r [.mv 5 (.t 0),
    .len 6 (.t 5),
    .mk 7 TLock 48 (.t 6),
    .mv 3 (.t 7),
    .keep [3, 0]])
  (.seq (.seq (.r [.mv 4 (.c (.d (.i .i64 0)))])
  (.blk 0 (.pre [.keep [4, 3, 0]] (.loop wtoLockS_l0))))
  (.seq (.r [.mv 22 (.t 3),
    .mv 2 (.t 22),
    .ren 71 66,
    .keep [2],
    .drop [71]])
  (.ret))))⟩
/-- live: [0, 3, 4]; objects: [71] -/
def wtoIntS_l0 : C :=
  .seq (.seq (.r [.mv 8 (.t 4),
      .mv 9 (.t 0),
      .len 10 (.t 9),
      .bin 11 .lss .num (.t 8) (.t 10),
      .kill [8, 9, 10]])
    (.cond (.t 11)
      (.pre [.kill [11]] (.skip))
      (.pre [.keep [3]] (.ex 0))))
    (.seq (.blk 1 (.r [.mv 14 (.t 3),
      .mv 15 (.t 4),
      .mv 16 (.t 0),
      .mv 17 (.t 4),
      .ia 18 1 (.t 16) (.t 17),
      .ld 19 1 false (.t 18),
      .ia 20 1 (.t 14) (.t 15),
      .kill [14, 15, 16, 17, 18],
      .st 1 (.t 20) (.t 19),
      .keep [4, 3, 0]]))
    (.r [.mv 12 (.t 4),
      .bin 13 .add .num (.t 12) (.c (.d (.i .i64 1))),
      .mv 4 (.t 13),
      .kill [12, 13]]))
def wtoIntS_m : Fn := ⟨1, [.t 2], false,
  .seq (.r [.mv 2 (.c (.nil (.int .i64))),
    .opn 2 2 false,
    .kill [2],
    .drop [66]])
  (.seq (.r [.mv 5 (.t 0),
    .len 6 (.t 5),
    .mk 7 (.int .i64) 8 (.t 6),
    .mv 3 (.t 7),
    .keep [3, 0]])
  (.seq (.seq (.r [.mv 4 (.c (.d (.i .i64 0)))])
  (.blk 0 (.pre [.keep [4, 3, 0]] (.loop wtoIntS_l0))))
  (.seq (.r [.mv 21 (.t 3),
    .mv 2 (.t 21),
    .ren 71 66,
    .keep [2],
    .drop [71]])
  (.ret))))⟩
def iTagAt_m : Fn := ⟨2, [.t 4, .t 5], false,
  .seq (.r [.bx 2 TSrv true (.t 0),
    .mv 4 (.c (.d (.s []))),
    .mv 5 (.c (.d (.b false))),
    .keep [2, 1]])
  (.seq (.seq (.r [.mv 7 (.t 1),
    .len 8 (.t 7),
    .bin 9 .eql .num (.t 8) (.c (.d (.i .i64 0))),
    .kill [7, 8]])
  (.cond (.t 9)
    (.pre [.keep [], .drop [66]] (.seq (.r [.call 10 true [] (.c (.clo iTagText [])) [(.c (.d (.i .i64 0)))],
      .mv 4 (.t 10),
      .mv 5 (.c (.d (.b true))),
      .kill [10]])
    (.ret)))
    (.pre [.kill [9]] (.skip))))
  (.seq (.r [.fa 11 (.t 2) 0,
    .ld 12 1 false (.t 11),
    .mv 13 (.t 1),
    .call 14 true [] (.c (.clo iFindRes [])) [(.t 12), (.t 13)],
    .mv 6 (.t 14),
    .keep [6, 2]])
  (.seq (.seq (.r [.mv 15 (.t 6),
    .bin 16 .lss .num (.t 15) (.c (.d (.i .i64 0))),
    .kill [15]])
  (.cond (.t 16)
    (.pre [.keep [], .drop [66]] (.seq (.r [.mv 4 (.c (.d (.s []))),
      .mv 5 (.c (.d (.b false)))])
    (.ret)))
    (.pre [.kill [16]] (.skip))))
  (.seq (.r [.fa 17 (.t 2) 0,
    .ld 18 1 false (.t 17),
    .mv 19 (.t 6),
    .ia 20 5 (.t 18) (.t 19),
    .kill [2, 6, 17, 18, 19],
    .fa 21 (.t 20) 3,
    .ld 22 1 false (.t 21),
    .call 23 true [] (.c (.clo iTagText [])) [(.t 22)],
    .mv 4 (.t 23),
    .mv 5 (.c (.d (.b true))),
    .keep [5, 4],
    .drop [66]])
  (.ret)))))⟩
/-- live: [0, 1, 5]; objects: [] -/
def weqResS_l0 : C :=
  .seq (.seq (.r [.mv 11 (.t 5),
      .mv 12 (.t 0),
      .len 13 (.t 12),
      .bin 14 .lss .num (.t 11) (.t 13),
      .kill [11, 12, 13]])
    (.cond (.t 14)
      (.pre [.kill [14]] (.skip))
      (.pre [.keep []] (.ex 0))))
    (.seq (.blk 1 (.seq (.post (.r [.mv 17 (.t 0),
      .mv 18 (.t 5),
      .ia 19 5 (.t 17) (.t 18),
      .ld 20 5 true (.t 19),
      .mv 21 (.t 1),
      .mv 22 (.t 5),
      .ia 23 5 (.t 21) (.t 22),
      .ld 24 5 true (.t 23),
      .call 25 true [] (.c (.clo weqRes [])) [(.t 20), (.t 24)],
      .not 26 (.t 25)]) [.keep [26, 5, 1, 0]])
    (.cond (.t 26)
      (.pre [.keep []] (.seq (.r [.mv 4 (.c (.d (.b false)))])
      (.ret)))
      (.pre [.kill [26]] (.skip)))))
    (.r [.mv 15 (.t 5),
      .bin 16 .add .num (.t 15) (.c (.d (.i .i64 1))),
      .mv 5 (.t 16),
      .kill [15, 16]]))
def weqResS_m : Fn := ⟨2, [.t 4], false,
  .seq (.r [.mv 4 (.c (.d (.b false))),
    .kill [4]])
  (.seq (.seq (.r [.mv 6 (.t 0),
    .len 7 (.t 6),
    .mv 8 (.t 1),
    .len 9 (.t 8),
    .bin 10 .neq .num (.t 7) (.t 9),
    .keep [10, 1, 0]])
  (.cond (.t 10)
    (.pre [.keep []] (.seq (.r [.mv 4 (.c (.d (.b false)))])
    (.ret)))
    (.pre [.kill [10]] (.skip))))
  (.seq (.seq (.r [.mv 5 (.c (.d (.i .i64 0)))])
  (.blk 0 (.pre [.keep [5, 1, 0]] (.loop weqResS_l0))))
  (.seq (.r [.mv 4 (.c (.d (.b true)))])
  (.ret))))⟩
/-- live: [0, 1, 5]; objects: [] -/
def weqLockS_l0 : C :=
  .seq (.seq (.r [.mv 11 (.t 5),
      .mv 12 (.t 0),
      .len 13 (.t 12),
      .bin 14 .lss .num (.t 11) (.t 13),
      .kill [11, 12, 13]])
    (.cond (.t 14)
      (.pre [.kill [14]] (.skip))
      (.pre [.keep []] (.ex 0))))
    (.seq (.blk 1 (.seq (.post (.r [.mv 17 (.t 0),
      .mv 18 (.t 5),
      .ia 19 5 (.t 17) (.t 18),
      .ld 20 5 true (.t 19),
      .mv 21 (.t 1),
      .mv 22 (.t 5),
      .ia 23 5 (.t 21) (.t 22),
      .ld 24 5 true (.t 23),
      .call 25 true [] (.c (.clo weqLock [])) [(.t 20), (.t 24)],
      .not 26 (.t 25)]) [.keep [26, 5, 1, 0]])
    (.cond (.t 26)
      (.pre [.keep []] (.seq (.r [.mv 4 (.c (.d (.b false)))])
      (.ret)))
      (.pre [.kill [26]] (.skip)))))
    (.r [.mv 15 (.t 5),
      .bin 16 .add .num (.t 15) (.c (.d (.i .i64 1))),
      .mv 5 (.t 16),
      .kill [15, 16]]))
def weqLockS_m : Fn := ⟨2, [.t 4], false,
  .seq (.r [.mv 4 (.c (.d (.b false))),
    .kill [4]])
  (.seq (.seq (.r [.mv 6 (.t 0),
    .len 7 (.t 6),
    .mv 8 (.t 1),
    .len 9 (.t 8),
    .bin 10 .neq .num (.t 7) (.t 9),
    .keep [10, 1, 0]])
  (.cond (.t 10)
    (.pre [.keep []] (.seq (.r [.mv 4 (.c (.d (.b false)))])
    (.ret)))
    (.pre [.kill [10]] (.skip))))
  (.seq (.seq (.r [.mv 5 (.c (.d (.i .i64 0)))])
  (.blk 0 (.pre [.keep [5, 1, 0]] (.loop weqLockS_l0))))
  (.seq (.r [.mv 4 (.c (.d (.b true)))])
  (.ret))))⟩
/-- live: [0, 1, 5]; objects: [] -/
def weqIntS_l0 : C :=
  .seq (.seq (.r [.mv 11 (.t 5),
      .mv 12 (.t 0),
      .len 13 (.t 12),
      .bin 14 .lss .num (.t 11) (.t 13),
      .kill [11, 12, 13]])
    (.cond (.t 14)
      (.pre [.kill [14]] (.skip))
      (.pre [.keep []] (.ex 0))))
    (.seq (.blk 1 (.seq (.post (.r [.mv 17 (.t 0),
      .mv 18 (.t 5),
      .ia 19 1 (.t 17) (.t 18),
      .ld 20 1 false (.t 19),
      .mv 21 (.t 1),
      .mv 22 (.t 5),
      .ia 23 1 (.t 21) (.t 22),
      .ld 24 1 false (.t 23),
      .bin 25 .neq .num (.t 20) (.t 24)]) [.keep [25, 5, 1, 0]])
    (.cond (.t 25)
      (.pre [.keep []] (.seq (.r [.mv 4 (.c (.d (.b false)))])
      (.ret)))
      (.pre [.kill [25]] (.skip)))))
    (.r [.mv 15 (.t 5),
      .bin 16 .add .num (.t 15) (.c (.d (.i .i64 1))),
      .mv 5 (.t 16),
      .kill [15, 16]]))
def weqIntS_m : Fn := ⟨2, [.t 4], false,
  .seq (.r [.mv 4 (.c (.d (.b false))),
    .kill [4]])
  (.seq (.seq (.r [.mv 6 (.t 0),
    .len 7 (.t 6),
    .mv 8 (.t 1),
    .len 9 (.t 8),
    .bin 10 .neq .num (.t 7) (.t 9),
    .keep [10, 1, 0]])
  (.cond (.t 10)
    (.pre [.keep []] (.seq (.r [.mv 4 (.c (.d (.b false)))])
    (.ret)))
    (.pre [.kill [10]] (.skip))))
  (.seq (.seq (.r [.mv 5 (.c (.d (.i .i64 0)))])
  (.blk 0 (.pre [.keep [5, 1, 0]] (.loop weqIntS_l0))))
  (.seq (.r [.mv 4 (.c (.d (.b true)))])
  (.ret))))⟩
def wszRes_m : Fn := ⟨2, [.t 4], false,
  .seq (.r [.bx 2 TRes true (.t 0),
    .mv 4 (.c (.d (.i .i64 0))),
    .kill [0, 4]])
  (.seq (.r [.fa 5 (.t 2) 0,
    .ld 6 1 false (.t 5),
    .mv 7 (.t 1),
    .call 8 true [] (.c (.clo wszStringS [])) [(.t 6), (.t 7)],
    .mv 1 (.t 8),
    .keep [2, 1]])
  (.seq (.seq (.r [.mv 9 (.t 1),
    .bin 10 .lss .num (.t 9) (.c (.d (.i .i64 0))),
    .kill [9]])
  (.cond (.t 10)
    (.pre [.keep [], .drop [66]] (.seq (.r [.mv 4 (.c (.d (.i .i64 (-1))))])
    (.ret)))
    (.pre [.kill [10]] (.skip))))
  (.seq (.r [.mv 11 (.t 1),
    .fa 12 (.t 2) 2,
    .ld 13 1 false (.t 12),
    .lns 14 (.t 13),
    .bin 15 .sub .num (.t 11) (.t 14),
    .kill [1, 11, 12, 13, 14],
    .mv 1 (.t 15),
    .keep [2, 1]])
  (.seq (.seq (.r [.mv 16 (.t 1),
    .bin 17 .lss .num (.t 16) (.c (.d (.i .i64 0))),
    .kill [16]])
  (.cond (.t 17)
    (.pre [.keep [], .drop [66]] (.seq (.r [.mv 4 (.c (.d (.i .i64 (-1))))])
    (.ret)))
    (.pre [.kill [17]] (.skip))))
  (.seq (.r [.fa 18 (.t 2) 4,
    .ld 19 1 false (.t 18),
    .mv 20 (.t 1),
    .call 21 true [] (.c (.clo wszPropS [])) [(.t 19), (.t 20)],
    .kill [1, 2, 18, 19, 20],
    .mv 1 (.t 21),
    .keep [1],
    .drop [66]])
  (.seq (.seq (.r [.mv 22 (.t 1),
    .bin 23 .lss .num (.t 22) (.c (.d (.i .i64 0))),
    .kill [22]])
  (.cond (.t 23)
    (.pre [.keep []] (.seq (.r [.mv 4 (.c (.d (.i .i64 (-1))))])
    (.ret)))
    (.pre [.kill [23]] (.skip))))
  (.seq (.r [.mv 24 (.t 1),
    .mv 4 (.t 24),
    .keep [4]])
  (.ret))))))))⟩
def wszLock_m : Fn := ⟨2, [.t 4], false,
  .seq (.r [.bx 2 TLock true (.t 0),
    .mv 4 (.c (.d (.i .i64 0))),
    .kill [0, 4]])
  (.seq (.r [.fa 5 (.t 2) 1,
    .ld 6 1 false (.t 5),
    .mv 7 (.t 1),
    .call 8 true [] (.c (.clo wszStringS [])) [(.t 6), (.t 7)],
    .kill [1, 2, 5, 6, 7],
    .mv 1 (.t 8),
    .keep [1],
    .drop [66]])
  (.seq (.seq (.r [.mv 9 (.t 1),
    .bin 10 .lss .num (.t 9) (.c (.d (.i .i64 0))),
    .kill [9]])
  (.cond (.t 10)
    (.pre [.keep []] (.seq (.r [.mv 4 (.c (.d (.i .i64 (-1))))])
    (.ret)))
    (.pre [.kill [10]] (.skip))))
  (.seq (.r [.mv 11 (.t 1),
    .mv 4 (.t 11),
    .keep [4]])
  (.ret))))⟩
def sTagText_m : Fn := ⟨1, [.t 2], false,
  .seq (.r [.mv 2 (.c (.d (.s []))),
    .kill [2]])
  (.seq (.r [.mv 3 (.t 0),
    .call 4 true [] (.c (.clo sNumText [])) [(.t 3)],
    .bin 5 .add .num (.c (.d (.s [34, 118]))) (.t 4),
    .bin 6 .add .num (.t 5) (.c (.d (.s [34]))),
    .mv 2 (.t 6),
    .keep [2]])
  (.ret))⟩
/-- live: [0, 1, 5]; objects: [] -/
def sFindRes_l0 : C :=
  .seq (.seq (.r [.mv 6 (.t 5),
      .mv 7 (.t 0),
      .len 8 (.t 7),
      .bin 9 .lss .num (.t 6) (.t 8),
      .kill [6, 7, 8]])
    (.cond (.t 9)
      (.pre [.kill [9]] (.skip))
      (.pre [.keep []] (.ex 0))))
    (.seq (.blk 1 (.seq (.r [.mv 12 (.t 0),
      .mv 13 (.t 5),
      .ia 14 5 (.t 12) (.t 13),
      .fa 15 (.t 14) 0,
      .ld 16 1 false (.t 15),
      .mv 17 (.t 1),
      .call 18 true [] (.c (.clo sSamePath [])) [(.t 16), (.t 17)],
      .keep [18, 5, 1, 0]])
    (.cond (.t 18)
      (.pre [.keep [5]] (.seq (.r [.mv 19 (.t 5),
        .mv 4 (.t 19),
        .keep [4]])
      (.ret)))
      (.pre [.kill [18]] (.skip)))))
    (.r [.mv 10 (.t 5),
      .bin 11 .add .num (.t 10) (.c (.d (.i .i64 1))),
      .mv 5 (.t 11),
      .kill [10, 11]]))
def sFindRes_m : Fn := ⟨2, [.t 4], false,
  .seq (.r [.mv 4 (.c (.d (.i .i64 0))),
    .kill [4]])
  (.seq (.seq (.r [.mv 5 (.c (.d (.i .i64 0)))])
  (.blk 0 (.pre [.keep [5, 1, 0]] (.loop sFindRes_l0))))
  (.seq (.r [.mv 4 (.c (.d (.i .i64 (-1))))])
  (.ret)))⟩
def wtoRes_m : Fn := ⟨1, [.cell 2 5 true], false,
  .seq (.r [.bx 1 TRes true (.t 0),
    .al 2 TRes false,
    .kill [0]])
  (.seq (.r [.al 3 TRes false])
  (.seq (.r [.fa 4 (.t 1) 0,
    .ld 5 1 false (.t 4),
    .call 6 false [] (.c (.clo wtoStringS [])) [(.t 5)],
    .fa 7 (.t 3) 0,
    .st 1 (.t 7) (.t 6),
    .keep [3, 2, 1],
    .drop [7064]])
  (.seq (.r [.fa 8 (.t 1) 1,
    .ld 9 1 false (.t 8),
    .fa 10 (.t 3) 1,
    .st 1 (.t 10) (.t 9),
    .kill [8, 9, 10]])
  (.seq (.r [.fa 11 (.t 1) 2,
    .ld 12 1 false (.t 11),
    .fa 13 (.t 3) 2,
    .st 1 (.t 13) (.t 12),
    .kill [11, 12, 13]])
  (.seq (.r [.fa 14 (.t 1) 3,
    .ld 15 1 false (.t 14),
    .fa 16 (.t 3) 3,
    .st 1 (.t 16) (.t 15),
    .kill [14, 15, 16]])
  (.seq (.r [.fa 17 (.t 1) 4,
    .ld 18 1 false (.t 17),
    .call 19 false [] (.c (.clo wtoPropS [])) [(.t 18)],
    .fa 20 (.t 3) 4,
    .st 1 (.t 20) (.t 19),
    .keep [3, 2],
    .drop [65, 20064]])
  (.seq (.r [.ldt 21 5 true (.t 3),
    .st 5 (.t 2) (.t 21),
    .keep [2],
    .drop [67, 22064, 22068]])
  (.ret))))))))⟩
def wtoLock_m : Fn := ⟨1, [.cell 2 5 true], false,
  .seq (.r [.bx 1 TLock true (.t 0),
    .al 2 TLock false,
    .kill [0]])
  (.seq (.r [.al 3 TLock false])
  (.seq (.r [.fa 4 (.t 1) 0,
    .ld 5 1 false (.t 4),
    .fa 6 (.t 3) 0,
    .st 1 (.t 6) (.t 5),
    .kill [4, 5, 6]])
  (.seq (.r [.fa 7 (.t 1) 1,
    .ld 8 1 false (.t 7),
    .call 9 false [] (.c (.clo wtoStringS [])) [(.t 8)],
    .fa 10 (.t 3) 1,
    .st 1 (.t 10) (.t 9),
    .keep [3, 2, 1],
    .drop [10064]])
  (.seq (.r [.fa 11 (.t 1) 2,
    .ld 12 1 false (.t 11),
    .fa 13 (.t 3) 2,
    .st 1 (.t 13) (.t 12),
    .kill [11, 12, 13]])
  (.seq (.r [.fa 14 (.t 1) 3,
    .ld 15 1 false (.t 14),
    .fa 16 (.t 3) 3,
    .st 1 (.t 16) (.t 15),
    .kill [14, 15, 16]])
  (.seq (.r [.fa 17 (.t 1) 4,
    .ld 18 1 false (.t 17),
    .fa 19 (.t 3) 4,
    .st 1 (.t 19) (.t 18),
    .keep [3, 2],
    .drop [65]])
  (.seq (.r [.ldt 20 5 true (.t 3),
    .st 5 (.t 2) (.t 20),
    .keep [2],
    .drop [67, 21065]])
  (.ret))))))))⟩
def iTagText_m : Fn := ⟨1, [.t 2], false,
  .seq (.r [.mv 2 (.c (.d (.s []))),
    .kill [2]])
  (.seq (.r [.mv 3 (.t 0),
    .call 4 true [] (.c (.clo iNumText [])) [(.t 3)],
    .bin 5 .add .num (.c (.d (.s [34, 118]))) (.t 4),
    .bin 6 .add .num (.t 5) (.c (.d (.s [34]))),
    .mv 2 (.t 6),
    .keep [2]])
  (.ret))⟩
/-- live: [1, 7, 8, 9]; objects: [] -/
def iFindRes_l0 : C :=
  .seq (.r [.bin 10 .lss .num (.t 9) (.t 8)])
    (.seq (.cond (.t 10)
      (.pre [.kill [10]] (.skip))
      (.pre [.keep []] (.ex 0)))
    (.seq (.blk 1 (.seq (.r [.mv 11 (.t 9),
      .ia 12 5 (.t 7) (.t 9),
      .ld 13 5 true (.t 12),
      .al 6 TRes true,
      .mv 5 (.t 11),
      .st 5 (.t 6) (.t 13),
      .kill [11, 12, 13]])
    (.seq (.r [.fa 14 (.t 6) 0,
      .ld 15 1 false (.t 14),
      .mv 16 (.t 1),
      .call 17 true [] (.c (.clo iSamePath [])) [(.t 15), (.t 16)],
      .kill [6, 14, 15, 16],
      .drop [70]])
    (.cond (.t 17)
      (.pre [.keep [5]] (.seq (.r [.mv 18 (.t 5),
        .mv 4 (.t 18),
        .keep [4]])
      (.ret)))
      (.pre [.kill [5, 17]] (.skip))))))
    (.r [.bin 19 .add .num (.t 9) (.c (.d (.i .i64 1))),
      .mv 9 (.t 19),
      .kill [19]])))
def iFindRes_m : Fn := ⟨2, [.t 4], false,
  .seq (.r [.mv 4 (.c (.d (.i .i64 0))),
    .kill [4]])
  (.seq (.seq (.r [.mv 7 (.t 0),
    .len 8 (.t 7),
    .mv 9 (.c (.d (.i .i64 0))),
    .kill [0]])
  (.blk 0 (.pre [.keep [9, 8, 7, 1]] (.loop iFindRes_l0))))
  (.seq (.r [.mv 4 (.c (.d (.i .i64 (-1))))])
  (.ret)))⟩
def weqRes_m : Fn := ⟨2, [.t 4], false,
  .seq (.r [.bx 2 TRes true (.t 0),
    .bx 3 TRes true (.t 1),
    .mv 4 (.c (.d (.b false))),
    .keep [3, 2]])
  (.seq (.seq (.r [.fa 5 (.t 2) 0,
    .ld 6 1 false (.t 5),
    .fa 7 (.t 3) 0,
    .ld 8 1 false (.t 7),
    .call 9 true [] (.c (.clo weqStringS [])) [(.t 6), (.t 8)],
    .not 10 (.t 9),
    .keep [10, 3, 2]])
  (.cond (.t 10)
    (.pre [.keep [], .drop [66, 67]] (.seq (.r [.mv 4 (.c (.d (.b false)))])
    (.ret)))
    (.pre [.kill [10]] (.skip))))
  (.seq (.seq (.r [.fa 11 (.t 2) 1,
    .ld 12 1 false (.t 11),
    .fa 13 (.t 3) 1,
    .ld 14 1 false (.t 13),
    .bin 15 .neq .flag (.t 12) (.t 14),
    .keep [15, 3, 2]])
  (.cond (.t 15)
    (.pre [.keep [], .drop [66, 67]] (.seq (.r [.mv 4 (.c (.d (.b false)))])
    (.ret)))
    (.pre [.kill [15]] (.skip))))
  (.seq (.seq (.r [.fa 16 (.t 2) 2,
    .ld 17 1 false (.t 16),
    .fa 18 (.t 3) 2,
    .ld 19 1 false (.t 18),
    .bin 20 .neq .num (.t 17) (.t 19),
    .keep [20, 3, 2]])
  (.cond (.t 20)
    (.pre [.keep [], .drop [66, 67]] (.seq (.r [.mv 4 (.c (.d (.b false)))])
    (.ret)))
    (.pre [.kill [20]] (.skip))))
  (.seq (.seq (.r [.fa 21 (.t 2) 3,
    .ld 22 1 false (.t 21),
    .fa 23 (.t 3) 3,
    .ld 24 1 false (.t 23),
    .bin 25 .neq .num (.t 22) (.t 24),
    .keep [25, 3, 2]])
  (.cond (.t 25)
    (.pre [.keep [], .drop [66, 67]] (.seq (.r [.mv 4 (.c (.d (.b false)))])
    (.ret)))
    (.pre [.kill [25]] (.skip))))
  (.seq (.seq (.r [.fa 26 (.t 2) 4,
    .ld 27 1 false (.t 26),
    .fa 28 (.t 3) 4,
    .ld 29 1 false (.t 28),
    .call 30 true [] (.c (.clo weqPropS [])) [(.t 27), (.t 29)],
    .kill [2, 3, 26, 27, 28, 29],
    .not 31 (.t 30),
    .keep [31],
    .drop [66, 67]])
  (.cond (.t 31)
    (.pre [.keep []] (.seq (.r [.mv 4 (.c (.d (.b false)))])
    (.ret)))
    (.pre [.keep []] (.skip))))
  (.seq (.r [.mv 4 (.c (.d (.b true)))])
  (.ret)))))))⟩
def weqLock_m : Fn := ⟨2, [.t 4], false,
  .seq (.r [.bx 2 TLock true (.t 0),
    .bx 3 TLock true (.t 1),
    .mv 4 (.c (.d (.b false))),
    .keep [3, 2]])
  (.seq (.seq (.r [.fa 5 (.t 2) 0,
    .ld 6 1 false (.t 5),
    .fa 7 (.t 3) 0,
    .ld 8 1 false (.t 7),
    .bin 9 .neq .num (.t 6) (.t 8),
    .keep [9, 3, 2]])
  (.cond (.t 9)
    (.pre [.keep [], .drop [66, 67]] (.seq (.r [.mv 4 (.c (.d (.b false)))])
    (.ret)))
    (.pre [.kill [9]] (.skip))))
  (.seq (.seq (.r [.fa 10 (.t 2) 1,
    .ld 11 1 false (.t 10),
    .fa 12 (.t 3) 1,
    .ld 13 1 false (.t 12),
    .call 14 true [] (.c (.clo weqStringS [])) [(.t 11), (.t 13)],
    .not 15 (.t 14),
    .keep [15, 3, 2]])
  (.cond (.t 15)
    (.pre [.keep [], .drop [66, 67]] (.seq (.r [.mv 4 (.c (.d (.b false)))])
    (.ret)))
    (.pre [.kill [15]] (.skip))))
  (.seq (.seq (.r [.fa 16 (.t 2) 2,
    .ld 17 1 false (.t 16),
    .fa 18 (.t 3) 2,
    .ld 19 1 false (.t 18),
    .bin 20 .neq .flag (.t 17) (.t 19),
    .keep [20, 3, 2]])
  (.cond (.t 20)
    (.pre [.keep [], .drop [66, 67]] (.seq (.r [.mv 4 (.c (.d (.b false)))])
    (.ret)))
    (.pre [.kill [20]] (.skip))))
  (.seq (.seq (.r [.fa 21 (.t 2) 3,
    .ld 22 1 false (.t 21),
    .fa 23 (.t 3) 3,
    .ld 24 1 false (.t 23),
    .bin 25 .neq .flag (.t 22) (.t 24),
    .keep [25, 3, 2]])
  (.cond (.t 25)
    (.pre [.keep [], .drop [66, 67]] (.seq (.r [.mv 4 (.c (.d (.b false)))])
    (.ret)))
    (.pre [.kill [25]] (.skip))))
  (.seq (.seq (.r [.fa 26 (.t 2) 4,
    .ld 27 1 false (.t 26),
    .fa 28 (.t 3) 4,
    .ld 29 1 false (.t 28),
    .bin 30 .neq .num (.t 27) (.t 29),
    .keep [30],
    .drop [66, 67]])
  (.cond (.t 30)
    (.pre [.keep []] (.seq (.r [.mv 4 (.c (.d (.b false)))])
    (.ret)))
    (.pre [.keep []] (.skip))))
  (.seq (.r [.mv 4 (.c (.d (.b true)))])
  (.ret)))))))⟩
/-- live: [0, 1, 5]; objects: [] -/
def wszStringS_l0 : C :=
  .seq (.seq (.r [.mv 12 (.t 5),
      .mv 13 (.t 0),
      .len 14 (.t 13),
      .bin 15 .lss .num (.t 12) (.t 14),
      .kill [12, 13, 14]])
    (.cond (.t 15)
      (.pre [.kill [15]] (.skip))
      (.pre [.keep [1]] (.ex 0))))
    (.seq (.blk 1 (.seq (.r [.mv 18 (.t 1),
      .mv 19 (.t 0),
      .mv 20 (.t 5),
      .ia 21 1 (.t 19) (.t 20),
      .ld 22 1 false (.t 21),
      .lns 23 (.t 22),
      .kill [1, 19, 20, 21, 22],
      .bin 24 .sub .num (.t 18) (.t 23),
      .mv 1 (.t 24),
      .keep [5, 1, 0]])
    (.seq (.r [.mv 25 (.t 1),
      .bin 26 .lss .num (.t 25) (.c (.d (.i .i64 0))),
      .kill [25]])
    (.cond (.t 26)
      (.pre [.keep []] (.seq (.r [.mv 4 (.c (.d (.i .i64 (-1))))])
      (.ret)))
      (.pre [.kill [26]] (.skip))))))
    (.r [.mv 16 (.t 5),
      .bin 17 .add .num (.t 16) (.c (.d (.i .i64 1))),
      .mv 5 (.t 17),
      .kill [16, 17]]))
def wszStringS_m : Fn := ⟨2, [.t 4], false,
  .seq (.r [.mv 4 (.c (.d (.i .i64 0))),
    .kill [4]])
  (.seq (.r [.mv 6 (.t 1),
    .mv 7 (.t 0),
    .len 8 (.t 7),
    .bin 9 .sub .num (.t 6) (.t 8),
    .mv 1 (.t 9),
    .keep [1, 0]])
  (.seq (.seq (.r [.mv 10 (.t 1),
    .bin 11 .lss .num (.t 10) (.c (.d (.i .i64 0))),
    .kill [10]])
  (.cond (.t 11)
    (.pre [.keep []] (.seq (.r [.mv 4 (.c (.d (.i .i64 (-1))))])
    (.ret)))
    (.pre [.kill [11]] (.skip))))
  (.seq (.seq (.r [.mv 5 (.c (.d (.i .i64 0)))])
  (.blk 0 (.pre [.keep [5, 1, 0]] (.loop wszStringS_l0))))
  (.seq (.r [.mv 27 (.t 1),
    .mv 4 (.t 27),
    .keep [4]])
  (.ret)))))⟩
/-- live: [0, 1, 5]; objects: [] -/
def wszPropS_l0 : C :=
  .seq (.seq (.r [.mv 12 (.t 5),
      .mv 13 (.t 0),
      .len 14 (.t 13),
      .bin 15 .lss .num (.t 12) (.t 14),
      .kill [12, 13, 14]])
    (.cond (.t 15)
      (.pre [.kill [15]] (.skip))
      (.pre [.keep [1]] (.ex 0))))
    (.seq (.blk 1 (.seq (.r [.mv 18 (.t 0),
      .mv 19 (.t 5),
      .ia 20 3 (.t 18) (.t 19),
      .ld 21 3 true (.t 20),
      .mv 22 (.t 1),
      .call 23 true [] (.c (.clo wszProp [])) [(.t 21), (.t 22)],
      .kill [1, 18, 19, 20, 21, 22],
      .mv 1 (.t 23),
      .keep [5, 1, 0]])
    (.seq (.r [.mv 24 (.t 1),
      .bin 25 .lss .num (.t 24) (.c (.d (.i .i64 0))),
      .kill [24]])
    (.cond (.t 25)
      (.pre [.keep []] (.seq (.r [.mv 4 (.c (.d (.i .i64 (-1))))])
      (.ret)))
      (.pre [.kill [25]] (.skip))))))
    (.r [.mv 16 (.t 5),
      .bin 17 .add .num (.t 16) (.c (.d (.i .i64 1))),
      .mv 5 (.t 17),
      .kill [16, 17]]))
def wszPropS_m : Fn := ⟨2, [.t 4], false,
  .seq (.r [.mv 4 (.c (.d (.i .i64 0))),
    .kill [4]])
  (.seq (.r [.mv 6 (.t 1),
    .mv 7 (.t 0),
    .len 8 (.t 7),
    .bin 9 .sub .num (.t 6) (.t 8),
    .mv 1 (.t 9),
    .keep [1, 0]])
  (.seq (.seq (.r [.mv 10 (.t 1),
    .bin 11 .lss .num (.t 10) (.c (.d (.i .i64 0))),
    .kill [10]])
  (.cond (.t 11)
    (.pre [.keep []] (.seq (.r [.mv 4 (.c (.d (.i .i64 (-1))))])
    (.ret)))
    (.pre [.kill [11]] (.skip))))
  (.seq (.seq (.r [.mv 5 (.c (.d (.i .i64 0)))])
  (.blk 0 (.pre [.keep [5, 1, 0]] (.loop wszPropS_l0))))
  (.seq (.r [.mv 26 (.t 1),
    .mv 4 (.t 26),
    .keep [4]])
  (.ret)))))⟩
/-- live: [0, 3]; objects: [] -/
def sNumText_l0 : C :=
  .seq (.seq (.r [.mv 12 (.t 0),
      .bin 13 .gtr .num (.t 12) (.c (.d (.i .i64 9))),
      .kill [12]])
    (.cond (.t 13)
      (.pre [.kill [13]] (.skip))
      (.pre [.keep [3]] (.ex 0))))
    (.blk 1 (.seq (.r [.mv 14 (.t 0),
      .bin 15 .quo .num (.t 14) (.c (.d (.i .i64 10))),
      .mv 0 (.t 15),
      .kill [14, 15]])
    (.r [.mv 16 (.t 0),
      .bin 17 .rem .num (.t 16) (.c (.d (.i .i64 10))),
      .bin 18 .add .num (.c (.d (.i .i64 48))) (.t 17),
      .cvi 19 .u8 (.t 18),
      .bs 20 .u8 false 1 [.d (.u 0)] [(0, (.t 19))],
      .b2s 21 (.t 20),
      .kill [16, 17, 18, 19, 20],
      .mv 22 (.t 3),
      .bin 23 .add .num (.t 21) (.t 22),
      .mv 3 (.t 23),
      .keep [3, 0],
      .drop [84]])))
def sNumText_m : Fn := ⟨1, [.t 2], false,
  .seq (.r [.mv 2 (.c (.d (.s []))),
    .kill [2]])
  (.seq (.seq (.r [.mv 4 (.t 0),
    .bin 5 .lss .num (.t 4) (.c (.d (.i .i64 0))),
    .kill [4]])
  (.cond (.t 5)
    (.pre [.keep []] (.r [.mv 0 (.c (.d (.i .i64 0)))]))
    (.pre [.kill [5]] (.skip))))
  (.seq (.r [.mv 6 (.t 0),
    .bin 7 .rem .num (.t 6) (.c (.d (.i .i64 10))),
    .bin 8 .add .num (.c (.d (.i .i64 48))) (.t 7),
    .cvi 9 .u8 (.t 8),
    .bs 10 .u8 false 1 [.d (.u 0)] [(0, (.t 9))],
    .b2s 11 (.t 10),
    .kill [6, 7, 8, 9, 10],
    .mv 3 (.t 11),
    .keep [3, 0],
    .drop [74]])
  (.seq (.blk 0 (.pre [.keep [3, 0]] (.loop sNumText_l0)))
  (.seq (.r [.mv 24 (.t 3),
    .mv 2 (.t 24),
    .keep [2]])
  (.ret)))))⟩
/-- live: [0, 1, 5]; objects: [] -/
def sSamePath_l0 : C :=
  .seq (.seq (.r [.mv 11 (.t 5),
      .mv 12 (.t 0),
      .len 13 (.t 12),
      .bin 14 .lss .num (.t 11) (.t 13),
      .kill [11, 12, 13]])
    (.cond (.t 14)
      (.pre [.kill [14]] (.skip))
      (.pre [.keep []] (.ex 0))))
    (.seq (.blk 1 (.seq (.post (.r [.mv 17 (.t 0),
      .mv 18 (.t 5),
      .ia 19 1 (.t 17) (.t 18),
      .ld 20 1 false (.t 19),
      .mv 21 (.t 1),
      .mv 22 (.t 5),
      .ia 23 1 (.t 21) (.t 22),
      .ld 24 1 false (.t 23),
      .bin 25 .neq .num (.t 20) (.t 24)]) [.keep [25, 5, 1, 0]])
    (.cond (.t 25)
      (.pre [.keep []] (.seq (.r [.mv 4 (.c (.d (.b false)))])
      (.ret)))
      (.pre [.kill [25]] (.skip)))))
    (.r [.mv 15 (.t 5),
      .bin 16 .add .num (.t 15) (.c (.d (.i .i64 1))),
      .mv 5 (.t 16),
      .kill [15, 16]]))
def sSamePath_m : Fn := ⟨2, [.t 4], false,
  .seq (.r [.mv 4 (.c (.d (.b false))),
    .kill [4]])
  (.seq (.seq (.r [.mv 6 (.t 0),
    .len 7 (.t 6),
    .mv 8 (.t 1),
    .len 9 (.t 8),
    .bin 10 .neq .num (.t 7) (.t 9),
    .keep [10, 1, 0]])
  (.cond (.t 10)
    (.pre [.keep []] (.seq (.r [.mv 4 (.c (.d (.b false)))])
    (.ret)))
    (.pre [.kill [10]] (.skip))))
  (.seq (.seq (.r [.mv 5 (.c (.d (.i .i64 0)))])
  (.blk 0 (.pre [.keep [5, 1, 0]] (.loop sSamePath_l0))))
  (.seq (.r [.mv 4 (.c (.d (.b true)))])
  (.ret))))⟩
/-- live: [0, 3, 4]; objects: [71] -/
def wtoStringS_l0 : C :=
  .seq (.seq (.r [.mv 8 (.t 4),
      .mv 9 (.t 0),
      .len 10 (.t 9),
      .bin 11 .lss .num (.t 8) (.t 10),
      .kill [8, 9, 10]])
    (.cond (.t 11)
      (.pre [.kill [11]] (.skip))
      (.pre [.keep [3]] (.ex 0))))
    (.seq (.blk 1 (.r [.mv 14 (.t 3),
      .mv 15 (.t 4),
      .mv 16 (.t 0),
      .mv 17 (.t 4),
      .ia 18 1 (.t 16) (.t 17),
      .ld 19 1 false (.t 18),
      .ia 20 1 (.t 14) (.t 15),
      .kill [14, 15, 16, 17, 18],
      .st 1 (.t 20) (.t 19),
      .keep [4, 3, 0]]))
    (.r [.mv 12 (.t 4),
      .bin 13 .add .num (.t 12) (.c (.d (.i .i64 1))),
      .mv 4 (.t 13),
      .kill [12, 13]]))
def wtoStringS_m : Fn := ⟨1, [.t 2], false,
  .seq (.r [.mv 2 (.c (.nil .str)),
    .opn 2 2 false,
    .kill [2],
    .drop [66]])
  (.seq (.r [.mv 5 (.t 0),
    .len 6 (.t 5),
    .mk 7 .str 16 (.t 6),
    .mv 3 (.t 7),
    .keep [3, 0]])
  (.seq (.seq (.r [.mv 4 (.c (.d (.i .i64 0)))])
  (.blk 0 (.pre [.keep [4, 3, 0]] (.loop wtoStringS_l0))))
  (.seq (.r [.mv 21 (.t 3),
    .mv 2 (.t 21),
    .ren 71 66,
    .keep [2],
    .drop [71]])
  (.ret))))⟩
/-- live: [0, 3, 4]; objects: [71] -/
def wtoPropS_l0 : C :=
  .seq (.seq (.r [.mv 8 (.t 4),
      .mv 9 (.t 0),
      .len 10 (.t 9),
      .bin 11 .lss .num (.t 8) (.t 10),
      .kill [8, 9, 10]])
    (.cond (.t 11)
      (.pre [.kill [11]] (.skip))
      (.pre [.keep [3]] (.ex 0))))
    (.seq (.blk 1 (.r [.mv 14 (.t 3),
      .mv 15 (.t 4),
      .mv 16 (.t 0),
      .mv 17 (.t 4),
      .ia 18 3 (.t 16) (.t 17),
      .ld 19 3 true (.t 18),
      .call 20 true [] (.c (.clo wtoProp [])) [(.t 19)],
      .ia 21 3 (.t 14) (.t 15),
      .kill [14, 15, 16, 17, 18, 19],
      .st 3 (.t 21) (.t 20),
      .keep [4, 3, 0]]))
    (.r [.mv 12 (.t 4),
      .bin 13 .add .num (.t 12) (.c (.d (.i .i64 1))),
      .mv 4 (.t 13),
      .kill [12, 13]]))
def wtoPropS_m : Fn := ⟨1, [.t 2], false,
  .seq (.r [.mv 2 (.c (.nil TProp)),
    .opn 2 2 false,
    .kill [2],
    .drop [66]])
  (.seq (.r [.mv 5 (.t 0),
    .len 6 (.t 5),
    .mk 7 TProp 48 (.t 6),
    .mv 3 (.t 7),
    .keep [3, 0]])
  (.seq (.seq (.r [.mv 4 (.c (.d (.i .i64 0)))])
  (.blk 0 (.pre [.keep [4, 3, 0]] (.loop wtoPropS_l0))))
  (.seq (.r [.mv 22 (.t 3),
    .mv 2 (.t 22),
    .ren 71 66,
    .keep [2],
    .drop [71]])
  (.ret))))⟩
def iNumText_m : Fn := ⟨1, [.t 2], false,
  .seq (.r [.mv 2 (.c (.d (.s []))),
    .kill [2]])
  (.seq (.r [.mv 3 (.t 0),
    .mm 4 true (.t 3) (.c (.d (.i .i64 0))),
    .call 5 true [] (.c (.clo x_strconv_Itoa [])) [(.t 4)],
    .mv 2 (.t 5),
    .keep [2]])
  (.ret))⟩
/-- live: [0, 1, 12, 13]; objects: [] -/
def iSamePath_l0 : C :=
  .seq (.r [.bin 14 .lss .num (.t 13) (.t 12)])
    (.seq (.cond (.t 14)
      (.pre [.kill [14]] (.skip))
      (.pre [.keep []] (.ex 0)))
    (.seq (.blk 1 (.seq (.r [.mv 15 (.t 13),
      .mv 5 (.t 15),
      .kill [15]])
    (.seq (.post (.r [.mv 16 (.t 0),
      .mv 17 (.t 5),
      .ia 18 1 (.t 16) (.t 17),
      .ld 19 1 false (.t 18),
      .mv 20 (.t 1),
      .mv 21 (.t 5),
      .ia 22 1 (.t 20) (.t 21),
      .ld 23 1 false (.t 22),
      .bin 24 .neq .num (.t 19) (.t 23)]) [.keep [24, 13, 12, 1, 0]])
    (.cond (.t 24)
      (.pre [.keep []] (.seq (.r [.mv 4 (.c (.d (.b false)))])
      (.ret)))
      (.pre [.kill [24]] (.skip))))))
    (.r [.bin 25 .add .num (.t 13) (.c (.d (.i .i64 1))),
      .mv 13 (.t 25),
      .kill [25]])))
def iSamePath_m : Fn := ⟨2, [.t 4], false,
  .seq (.r [.mv 4 (.c (.d (.b false))),
    .kill [4]])
  (.seq (.seq (.r [.mv 6 (.t 0),
    .len 7 (.t 6),
    .mv 8 (.t 1),
    .len 9 (.t 8),
    .bin 10 .neq .num (.t 7) (.t 9),
    .keep [10, 1, 0]])
  (.cond (.t 10)
    (.pre [.keep []] (.seq (.r [.mv 4 (.c (.d (.b false)))])
    (.ret)))
    (.pre [.kill [10]] (.skip))))
  (.seq (.seq (.r [.mv 11 (.t 0),
    .len 12 (.t 11),
    .mv 13 (.c (.d (.i .i64 0))),
    .kill [11]])
  (.blk 0 (.pre [.keep [13, 12, 1, 0]] (.loop iSamePath_l0))))
  (.seq (.r [.mv 4 (.c (.d (.b true)))])
  (.ret))))⟩
/-- live: [0, 1, 5]; objects: [] -/
def weqStringS_l0 : C :=
  .seq (.seq (.r [.mv 11 (.t 5),
      .mv 12 (.t 0),
      .len 13 (.t 12),
      .bin 14 .lss .num (.t 11) (.t 13),
      .kill [11, 12, 13]])
    (.cond (.t 14)
      (.pre [.kill [14]] (.skip))
      (.pre [.keep []] (.ex 0))))
    (.seq (.blk 1 (.seq (.post (.r [.mv 17 (.t 0),
      .mv 18 (.t 5),
      .ia 19 1 (.t 17) (.t 18),
      .ld 20 1 false (.t 19),
      .mv 21 (.t 1),
      .mv 22 (.t 5),
      .ia 23 1 (.t 21) (.t 22),
      .ld 24 1 false (.t 23),
      .bin 25 .neq .num (.t 20) (.t 24)]) [.keep [25, 5, 1, 0]])
    (.cond (.t 25)
      (.pre [.keep []] (.seq (.r [.mv 4 (.c (.d (.b false)))])
      (.ret)))
      (.pre [.kill [25]] (.skip)))))
    (.r [.mv 15 (.t 5),
      .bin 16 .add .num (.t 15) (.c (.d (.i .i64 1))),
      .mv 5 (.t 16),
      .kill [15, 16]]))
def weqStringS_m : Fn := ⟨2, [.t 4], false,
  .seq (.r [.mv 4 (.c (.d (.b false))),
    .kill [4]])
  (.seq (.seq (.r [.mv 6 (.t 0),
    .len 7 (.t 6),
    .mv 8 (.t 1),
    .len 9 (.t 8),
    .bin 10 .neq .num (.t 7) (.t 9),
    .keep [10, 1, 0]])
  (.cond (.t 10)
    (.pre [.keep []] (.seq (.r [.mv 4 (.c (.d (.b false)))])
    (.ret)))
    (.pre [.kill [10]] (.skip))))
  (.seq (.seq (.r [.mv 5 (.c (.d (.i .i64 0)))])
  (.blk 0 (.pre [.keep [5, 1, 0]] (.loop weqStringS_l0))))
  (.seq (.r [.mv 4 (.c (.d (.b true)))])
  (.ret))))⟩
/-- live: [0, 1, 5]; objects: [] -/
def weqPropS_l0 : C :=
  .seq (.seq (.r [.mv 11 (.t 5),
      .mv 12 (.t 0),
      .len 13 (.t 12),
      .bin 14 .lss .num (.t 11) (.t 13),
      .kill [11, 12, 13]])
    (.cond (.t 14)
      (.pre [.kill [14]] (.skip))
      (.pre [.keep []] (.ex 0))))
    (.seq (.blk 1 (.seq (.post (.r [.mv 17 (.t 0),
      .mv 18 (.t 5),
      .ia 19 3 (.t 17) (.t 18),
      .ld 20 3 true (.t 19),
      .mv 21 (.t 1),
      .mv 22 (.t 5),
      .ia 23 3 (.t 21) (.t 22),
      .ld 24 3 true (.t 23),
      .call 25 true [] (.c (.clo weqProp [])) [(.t 20), (.t 24)],
      .not 26 (.t 25)]) [.keep [26, 5, 1, 0]])
    (.cond (.t 26)
      (.pre [.keep []] (.seq (.r [.mv 4 (.c (.d (.b false)))])
      (.ret)))
      (.pre [.kill [26]] (.skip)))))
    (.r [.mv 15 (.t 5),
      .bin 16 .add .num (.t 15) (.c (.d (.i .i64 1))),
      .mv 5 (.t 16),
      .kill [15, 16]]))
def weqPropS_m : Fn := ⟨2, [.t 4], false,
  .seq (.r [.mv 4 (.c (.d (.b false))),
    .kill [4]])
  (.seq (.seq (.r [.mv 6 (.t 0),
    .len 7 (.t 6),
    .mv 8 (.t 1),
    .len 9 (.t 8),
    .bin 10 .neq .num (.t 7) (.t 9),
    .keep [10, 1, 0]])
  (.cond (.t 10)
    (.pre [.keep []] (.seq (.r [.mv 4 (.c (.d (.b false)))])
    (.ret)))
    (.pre [.kill [10]] (.skip))))
  (.seq (.seq (.r [.mv 5 (.c (.d (.i .i64 0)))])
  (.blk 0 (.pre [.keep [5, 1, 0]] (.loop weqPropS_l0))))
  (.seq (.r [.mv 4 (.c (.d (.b true)))])
  (.ret))))⟩
def wszProp_m : Fn := ⟨2, [.t 4], false,
  .seq (.r [.bx 2 TProp false (.t 0),
    .mv 4 (.c (.d (.i .i64 0))),
    .kill [0, 4]])
  (.seq (.r [.mv 5 (.t 1),
    .fa 6 (.t 2) 0,
    .ld 7 1 false (.t 6),
    .lns 8 (.t 7),
    .bin 9 .sub .num (.t 5) (.t 8),
    .kill [1, 5, 6, 7, 8],
    .mv 1 (.t 9),
    .keep [2, 1]])
  (.seq (.seq (.r [.mv 10 (.t 1),
    .bin 11 .lss .num (.t 10) (.c (.d (.i .i64 0))),
    .kill [10]])
  (.cond (.t 11)
    (.pre [.keep [], .drop [66]] (.seq (.r [.mv 4 (.c (.d (.i .i64 (-1))))])
    (.ret)))
    (.pre [.kill [11]] (.skip))))
  (.seq (.r [.mv 12 (.t 1),
    .fa 13 (.t 2) 1,
    .ld 14 1 false (.t 13),
    .lns 15 (.t 14),
    .bin 16 .sub .num (.t 12) (.t 15),
    .kill [1, 12, 13, 14, 15],
    .mv 1 (.t 16),
    .keep [2, 1]])
  (.seq (.seq (.r [.mv 17 (.t 1),
    .bin 18 .lss .num (.t 17) (.c (.d (.i .i64 0))),
    .kill [17]])
  (.cond (.t 18)
    (.pre [.keep [], .drop [66]] (.seq (.r [.mv 4 (.c (.d (.i .i64 (-1))))])
    (.ret)))
    (.pre [.kill [18]] (.skip))))
  (.seq (.r [.mv 19 (.t 1),
    .fa 20 (.t 2) 2,
    .ld 21 1 false (.t 20),
    .lns 22 (.t 21),
    .bin 23 .sub .num (.t 19) (.t 22),
    .kill [1, 2, 19, 20, 21, 22],
    .mv 1 (.t 23),
    .keep [1],
    .drop [66]])
  (.seq (.seq (.r [.mv 24 (.t 1),
    .bin 25 .lss .num (.t 24) (.c (.d (.i .i64 0))),
    .kill [24]])
  (.cond (.t 25)
    (.pre [.keep []] (.seq (.r [.mv 4 (.c (.d (.i .i64 (-1))))])
    (.ret)))
    (.pre [.kill [25]] (.skip))))
  (.seq (.r [.mv 26 (.t 1),
    .mv 4 (.t 26),
    .keep [4]])
  (.ret))))))))⟩
def wtoProp_m : Fn := ⟨1, [.cell 2 3 true], false,
  .seq (.r [.bx 1 TProp false (.t 0),
    .al 2 TProp false,
    .kill [0]])
  (.seq (.r [.al 3 TProp false])
  (.seq (.r [.fa 4 (.t 1) 0,
    .ld 5 1 false (.t 4),
    .fa 6 (.t 3) 0,
    .st 1 (.t 6) (.t 5),
    .kill [4, 5, 6]])
  (.seq (.r [.fa 7 (.t 1) 1,
    .ld 8 1 false (.t 7),
    .fa 9 (.t 3) 1,
    .st 1 (.t 9) (.t 8),
    .kill [7, 8, 9]])
  (.seq (.r [.fa 10 (.t 1) 2,
    .ld 11 1 false (.t 10),
    .fa 12 (.t 3) 2,
    .st 1 (.t 12) (.t 11),
    .keep [3, 2],
    .drop [65]])
  (.seq (.r [.ld 13 3 true (.t 3),
    .st 3 (.t 2) (.t 13),
    .keep [2],
    .drop [67]])
  (.ret))))))⟩
def weqProp_m : Fn := ⟨2, [.t 4], false,
  .seq (.r [.bx 2 TProp false (.t 0),
    .bx 3 TProp false (.t 1),
    .mv 4 (.c (.d (.b false))),
    .keep [3, 2]])
  (.seq (.seq (.r [.fa 5 (.t 2) 0,
    .ld 6 1 false (.t 5),
    .fa 7 (.t 3) 0,
    .ld 8 1 false (.t 7),
    .bin 9 .neq .num (.t 6) (.t 8),
    .keep [9, 3, 2]])
  (.cond (.t 9)
    (.pre [.keep [], .drop [66, 67]] (.seq (.r [.mv 4 (.c (.d (.b false)))])
    (.ret)))
    (.pre [.kill [9]] (.skip))))
  (.seq (.seq (.r [.fa 10 (.t 2) 1,
    .ld 11 1 false (.t 10),
    .fa 12 (.t 3) 1,
    .ld 13 1 false (.t 12),
    .bin 14 .neq .num (.t 11) (.t 13),
    .keep [14, 3, 2]])
  (.cond (.t 14)
    (.pre [.keep [], .drop [66, 67]] (.seq (.r [.mv 4 (.c (.d (.b false)))])
    (.ret)))
    (.pre [.kill [14]] (.skip))))
  (.seq (.seq (.r [.fa 15 (.t 2) 2,
    .ld 16 1 false (.t 15),
    .fa 17 (.t 3) 2,
    .ld 18 1 false (.t 17),
    .bin 19 .neq .num (.t 16) (.t 18),
    .keep [19],
    .drop [66, 67]])
  (.cond (.t 19)
    (.pre [.keep []] (.seq (.r [.mv 4 (.c (.d (.b false)))])
    (.ret)))
    (.pre [.keep []] (.skip))))
  (.seq (.r [.mv 4 (.c (.d (.b true)))])
  (.ret)))))⟩
def tabL : List (Nat × Fn) := [(wFnExactHeld, wFnExactHeld_m), (wszSrv, wszSrv_m), (sHeld, sHeld_m), (wtoSrv, wtoSrv_m), (iHeld, iHeld_m), (weqSrv, weqSrv_m), (wszResS, wszResS_m), (wszLockS, wszLockS_m), (wszIntS, wszIntS_m), (sTagAt, sTagAt_m), (wtoResS, wtoResS_m), (wtoLockS, wtoLockS_m), (wtoIntS, wtoIntS_m), (iTagAt, iTagAt_m), (weqResS, weqResS_m), (weqLockS, weqLockS_m), (weqIntS, weqIntS_m), (wszRes, wszRes_m), (wszLock, wszLock_m), (sTagText, sTagText_m), (sFindRes, sFindRes_m), (wtoRes, wtoRes_m), (wtoLock, wtoLock_m), (iTagText, iTagText_m), (iFindRes, iFindRes_m), (weqRes, weqRes_m), (weqLock, weqLock_m), (wszStringS, wszStringS_m), (wszPropS, wszPropS_m), (sNumText, sNumText_m), (sSamePath, sSamePath_m), (wtoStringS, wtoStringS_m), (wtoPropS, wtoPropS_m), (iNumText, iNumText_m), (iSamePath, iSamePath_m), (weqStringS, weqStringS_m), (weqPropS, weqPropS_m), (wszProp, wszProp_m), (wtoProp, wtoProp_m), (weqProp, weqProp_m)]
end Go.Proofs.YtcjdocdinmbjhaaDoorK
