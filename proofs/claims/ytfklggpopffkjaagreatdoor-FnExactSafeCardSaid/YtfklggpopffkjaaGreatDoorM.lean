import Derived.Test.YtfklggpopffkjaaGreatDoorJ24
import Derived.Test.YtfklggpopffkjaaGreatDoorProg
import Derived.KernelRfl
set_option linter.unusedVariables false
set_option linter.unusedSimpArgs false
namespace Go.Proofs.YtfklggpopffkjaaGreatDoorK
open Go.RowKit
def wFnExactSafe : Nat := 3
def wszSrv : Nat := 7
def sSafe : Nat := 8
def wtoSrv : Nat := 9
def iSafe : Nat := 10
def weqSrv : Nat := 11
def wszResS : Nat := 31
def wszLockS : Nat := 32
def wszIntS : Nat := 33
def sSrvOk : Nat := 34
def sHeld : Nat := 35
def wtoResS : Nat := 36
def wtoLockS : Nat := 37
def wtoIntS : Nat := 38
def iSrvOk : Nat := 39
def iHeld : Nat := 40
def weqResS : Nat := 41
def weqLockS : Nat := 42
def weqIntS : Nat := 43
def wszRes : Nat := 65
def wszLock : Nat := 66
def sl1In : Nat := 44
def sl13Has : Nat := 67
def sTreeOk : Nat := 68
def sLocksOk : Nat := 69
def sTagAt : Nat := 70
def wtoRes : Nat := 71
def wtoLock : Nat := 72
def iTreeOk : Nat := 73
def iLocksOk : Nat := 74
def iin : Nat := 75
def iusedOk : Nat := 76
def ihasInt : Nat := 77
def iTagAt : Nat := 78
def weqRes : Nat := 79
def weqLock : Nat := 80
def wszStringS : Nat := 95
def wszPropS : Nat := 96
def sPathOk : Nat := 97
def sPropsOk : Nat := 98
def sLessPath : Nat := 99
def sIsColl : Nat := 100
def sAbove : Nat := 101
def sLockOk : Nat := 102
def sLockClash : Nat := 103
def sTagText : Nat := 104
def sFindRes : Nat := 105
def wtoStringS : Nat := 106
def wtoPropS : Nat := 107
def iresOk : Nat := 108
def iLessPath : Nat := 109
def iIsColl : Nat := 110
def iAbove : Nat := 111
def iLockOk : Nat := 112
def iLockClash : Nat := 113
def iTagText : Nat := 114
def iFindRes : Nat := 115
def weqStringS : Nat := 116
def weqPropS : Nat := 117
def wszProp : Nat := 136
def sNameOk : Nat := 137
def sl10Prop : Nat := 138
def sl10LessProp : Nat := 139
def sCovers : Nat := 140
def sNumText : Nat := 85
def sSamePath : Nat := 141
def wtoProp : Nat := 142
def iPathOk : Nat := 143
def iPropsOk : Nat := 144
def icopyPath : Nat := 145
def iCovers : Nat := 146
def iNumText : Nat := 147
def iSamePath : Nat := 148
def weqProp : Nat := 149
def sPlain : Nat := 173
def sSmallName : Nat := 155
def sUnder : Nat := 174
def iNameOk : Nat := 175
def ipropOk : Nat := 176
def ilessProp : Nat := 177
def iUnder : Nat := 178
def sl1Small : Nat := 182
def sl1Digit : Nat := 183
def iPlain : Nat := 163
def iSmallName : Nat := 167
def iisPlain : Nat := 191
def iisSmall : Nat := 194
def iisDigit : Nat := 195
def x_strconv_Itoa : Nat := 179
def x_strings_Contains : Nat := 164
abbrev TProp : T := .pr .str (.pr .str .str)
abbrev TRes : T := .pr (.sl .str) (.pr .bool (.pr .str (.pr (.int .i64) (.sl TProp))))
abbrev TLock : T := .pr (.int .i64) (.pr (.sl .str) (.pr .bool (.pr .bool (.int .i64))))
abbrev TSrv : T := .pr (.sl TRes) (.pr (.sl TLock) (.pr (.int .i64) (.pr (.int .i64) (.pr (.sl (.int .i64)) (.sl (.int .i64))))))
def wFnExactSafe_m : Fn := ⟨1, [.t 2], false,
  .seq (.r [.bx 1 TSrv true (.t 0),
    .mv 2 (.c (.d (.b false))),
    .keep [1]])
  (.seq (.r [.mv 3 (.c (.d (.i .i64 1048576)))])
  (.seq (.r [.ld 7 6 true (.t 1),
    .mv 8 (.t 3),
    .call 9 true [] (.c (.clo wszSrv [])) [(.t 7), (.t 8)],
    .mv 3 (.t 9),
    .keep [3, 1]])
  (.seq (.seq (.r [.mv 10 (.t 3),
    .bin 11 .lss .num (.t 10) (.c (.d (.i .i64 0))),
    .kill [3, 10]])
  (.cond (.t 11)
    (.pre [.keep [], .drop [65]] (.seq (.r [.mv 2 (.c (.d (.b true)))])
    (.ret)))
    (.pre [.kill [11]] (.skip))))
  (.seq (.r [.ld 12 6 true (.t 1),
    .call 13 true [] (.c (.clo wtoSrv [])) [(.t 12)],
    .call 14 true [] (.c (.clo sSafe [])) [(.t 13)],
    .mv 4 (.t 14),
    .keep [4, 1]])
  (.seq (.r [.ld 15 6 true (.t 1),
    .call 16 false [] (.c (.clo wtoSrv [])) [(.t 15)],
    .al 5 TSrv false,
    .st 6 (.t 5) (.t 16),
    .kill [15, 16],
    .drop [17064, 17065, 17068, 17069]])
  (.seq (.r [.ld 17 6 true (.t 5),
    .call 18 true [] (.c (.clo iSafe [])) [(.t 17)],
    .mv 6 (.t 18),
    .kill [17, 18]])
  (.seq (.seq (.r [.mv 19 (.t 6),
    .mv 20 (.t 4),
    .bin 21 .neq .num (.t 19) (.t 20),
    .keep [21, 5, 1]])
  (.cond (.t 21)
    (.pre [.keep [], .drop [65, 69]] (.seq (.r [.mv 2 (.c (.d (.b false)))])
    (.ret)))
    (.pre [.kill [21]] (.skip))))
  (.seq (.seq (.post (.r [.ld 22 6 true (.t 5),
    .ld 23 6 true (.t 1),
    .call 24 true [] (.c (.clo wtoSrv [])) [(.t 23)],
    .call 25 true [] (.c (.clo weqSrv [])) [(.t 22), (.t 24)],
    .not 26 (.t 25)]) [.keep [26], .drop [65, 69]])
  (.cond (.t 26)
    (.pre [.keep []] (.seq (.r [.mv 2 (.c (.d (.b false)))])
    (.ret)))
    (.pre [.keep []] (.skip))))
  (.seq (.r [.mv 2 (.c (.d (.b true)))])
  (.ret))))))))))⟩
def wszSrv_m : Fn := ⟨2, [.t 4], false,
  .seq (.r [.bx 2 TSrv true (.t 0),
    .mv 4 (.c (.d (.i .i64 0))),
    .kill [0, 4]])
  (.seq (.r [.fa 5 (.t 2) 0,
    .ld 6 1 false (.t 5),
    .mv 7 (.t 1),
    .call 8 true [] (.c (.clo wszResS [])) [(.t 6), (.t 7)],
    .mv 1 (.t 8),
    .keep [2, 1]])
  (.seq (.seq (.r [.mv 9 (.t 1),
    .bin 10 .lss .num (.t 9) (.c (.d (.i .i64 0))),
    .kill [9]])
  (.cond (.t 10)
    (.pre [.keep [], .drop [66]] (.seq (.r [.mv 4 (.c (.d (.i .i64 (-1))))])
    (.ret)))
    (.pre [.kill [10]] (.skip))))
  (.seq (.r [.fa 11 (.t 2) 1,
    .ld 12 1 false (.t 11),
    .mv 13 (.t 1),
    .call 14 true [] (.c (.clo wszLockS [])) [(.t 12), (.t 13)],
    .mv 1 (.t 14),
    .keep [2, 1]])
  (.seq (.seq (.r [.mv 15 (.t 1),
    .bin 16 .lss .num (.t 15) (.c (.d (.i .i64 0))),
    .kill [15]])
  (.cond (.t 16)
    (.pre [.keep [], .drop [66]] (.seq (.r [.mv 4 (.c (.d (.i .i64 (-1))))])
    (.ret)))
    (.pre [.kill [16]] (.skip))))
  (.seq (.r [.fa 17 (.t 2) 4,
    .ld 18 1 false (.t 17),
    .mv 19 (.t 1),
    .call 20 true [] (.c (.clo wszIntS [])) [(.t 18), (.t 19)],
    .mv 1 (.t 20),
    .keep [2, 1]])
  (.seq (.seq (.r [.mv 21 (.t 1),
    .bin 22 .lss .num (.t 21) (.c (.d (.i .i64 0))),
    .kill [21]])
  (.cond (.t 22)
    (.pre [.keep [], .drop [66]] (.seq (.r [.mv 4 (.c (.d (.i .i64 (-1))))])
    (.ret)))
    (.pre [.kill [22]] (.skip))))
  (.seq (.r [.fa 23 (.t 2) 5,
    .ld 24 1 false (.t 23),
    .mv 25 (.t 1),
    .call 26 true [] (.c (.clo wszIntS [])) [(.t 24), (.t 25)],
    .kill [1, 2, 23, 24, 25],
    .mv 1 (.t 26),
    .keep [1],
    .drop [66]])
  (.seq (.seq (.r [.mv 27 (.t 1),
    .bin 28 .lss .num (.t 27) (.c (.d (.i .i64 0))),
    .kill [27]])
  (.cond (.t 28)
    (.pre [.keep []] (.seq (.r [.mv 4 (.c (.d (.i .i64 (-1))))])
    (.ret)))
    (.pre [.kill [28]] (.skip))))
  (.seq (.r [.mv 29 (.t 1),
    .mv 4 (.t 29),
    .keep [4]])
  (.ret))))))))))⟩
def sSafe_m : Fn := ⟨1, [.t 2], false,
  .seq (.r [.bx 1 TSrv true (.t 0),
    .mv 2 (.c (.d (.i .i64 0))),
    .keep [1]])
  (.seq (.blk 0 (.seq (.r [.ld 4 6 true (.t 1),
    .call 5 true [] (.c (.clo sSrvOk [])) [(.t 4)],
    .not 6 (.t 5),
    .mv 3 (.t 6),
    .keep [3, 1]])
  (.cond (.t 3)
    (.pre [.keep [], .drop [65]] (.seq (.r [.mv 2 (.c (.d (.i .i64 1)))])
    (.ret)))
    (.pre [.kill [3]] (.seq (.r [.ld 8 6 true (.t 1),
      .call 9 true [] (.c (.clo sHeld [])) [(.t 8)],
      .not 10 (.t 9),
      .mv 7 (.t 10),
      .keep [7],
      .drop [65]])
    (.cond (.t 7)
      (.pre [.keep []] (.seq (.r [.mv 2 (.c (.d (.i .i64 2)))])
      (.ret)))
      (.pre [.keep []] (.skip))))))))
  (.seq (.r [.mv 2 (.c (.d (.i .i64 0)))])
  (.ret)))⟩
def wtoSrv_m : Fn := ⟨1, [.cell 2 6 true], false,
  .seq (.r [.bx 1 TSrv true (.t 0),
    .al 2 TSrv false,
    .kill [0]])
  (.seq (.r [.al 3 TSrv false])
  (.seq (.r [.fa 4 (.t 1) 0,
    .ld 5 1 false (.t 4),
    .call 6 false [] (.c (.clo wtoResS [])) [(.t 5)],
    .fa 7 (.t 3) 0,
    .st 1 (.t 7) (.t 6),
    .keep [3, 2, 1],
    .drop [7064]])
  (.seq (.r [.fa 8 (.t 1) 1,
    .ld 9 1 false (.t 8),
    .call 10 false [] (.c (.clo wtoLockS [])) [(.t 9)],
    .fa 11 (.t 3) 1,
    .st 1 (.t 11) (.t 10),
    .keep [3, 2, 1],
    .drop [11064]])
  (.seq (.r [.fa 12 (.t 1) 2,
    .ld 13 1 false (.t 12),
    .fa 14 (.t 3) 2,
    .st 1 (.t 14) (.t 13),
    .kill [12, 13, 14]])
  (.seq (.r [.fa 15 (.t 1) 3,
    .ld 16 1 false (.t 15),
    .fa 17 (.t 3) 3,
    .st 1 (.t 17) (.t 16),
    .kill [15, 16, 17]])
  (.seq (.r [.fa 18 (.t 1) 4,
    .ld 19 1 false (.t 18),
    .call 20 false [] (.c (.clo wtoIntS [])) [(.t 19)],
    .fa 21 (.t 3) 4,
    .st 1 (.t 21) (.t 20),
    .keep [3, 2, 1],
    .drop [21064]])
  (.seq (.r [.fa 22 (.t 1) 5,
    .ld 23 1 false (.t 22),
    .call 24 false [] (.c (.clo wtoIntS [])) [(.t 23)],
    .fa 25 (.t 3) 5,
    .st 1 (.t 25) (.t 24),
    .keep [3, 2],
    .drop [65, 25064]])
  (.seq (.r [.ldt 26 6 true (.t 3),
    .st 6 (.t 2) (.t 26),
    .keep [2],
    .drop [67, 27064, 27065, 27068, 27069]])
  (.ret)))))))))⟩
def iSafe_m : Fn := ⟨1, [.t 2], false,
  .seq (.r [.bx 1 TSrv true (.t 0),
    .mv 2 (.c (.d (.i .i64 0))),
    .keep [1]])
  (.seq (.blk 0 (.seq (.r [.ld 4 6 true (.t 1),
    .call 5 true [] (.c (.clo iSrvOk [])) [(.t 4)],
    .not 6 (.t 5),
    .mv 3 (.t 6),
    .keep [3, 1]])
  (.cond (.t 3)
    (.pre [.keep [], .drop [65]] (.seq (.r [.mv 2 (.c (.d (.i .i64 1)))])
    (.ret)))
    (.pre [.kill [3]] (.seq (.r [.ld 8 6 true (.t 1),
      .call 9 true [] (.c (.clo iHeld [])) [(.t 8)],
      .not 10 (.t 9),
      .mv 7 (.t 10),
      .keep [7],
      .drop [65]])
    (.cond (.t 7)
      (.pre [.keep []] (.seq (.r [.mv 2 (.c (.d (.i .i64 2)))])
      (.ret)))
      (.pre [.keep []] (.skip))))))))
  (.seq (.r [.mv 2 (.c (.d (.i .i64 0)))])
  (.ret)))⟩
def weqSrv_m : Fn := ⟨2, [.t 4], false,
  .seq (.r [.bx 2 TSrv true (.t 0),
    .bx 3 TSrv true (.t 1),
    .mv 4 (.c (.d (.b false))),
    .keep [3, 2]])
  (.seq (.seq (.r [.fa 5 (.t 2) 0,
    .ld 6 1 false (.t 5),
    .fa 7 (.t 3) 0,
    .ld 8 1 false (.t 7),
    .call 9 true [] (.c (.clo weqResS [])) [(.t 6), (.t 8)],
    .not 10 (.t 9),
    .keep [10, 3, 2]])
  (.cond (.t 10)
    (.pre [.keep [], .drop [66, 67]] (.seq (.r [.mv 4 (.c (.d (.b false)))])
    (.ret)))
    (.pre [.kill [10]] (.skip))))
  (.seq (.seq (.r [.fa 11 (.t 2) 1,
    .ld 12 1 false (.t 11),
    .fa 13 (.t 3) 1,
    .ld 14 1 false (.t 13),
    .call 15 true [] (.c (.clo weqLockS [])) [(.t 12), (.t 14)],
    .not 16 (.t 15),
    .keep [16, 3, 2]])
  (.cond (.t 16)
    (.pre [.keep [], .drop [66, 67]] (.seq (.r [.mv 4 (.c (.d (.b false)))])
    (.ret)))
    (.pre [.kill [16]] (.skip))))
  (.seq (.seq (.r [.fa 17 (.t 2) 2,
    .ld 18 1 false (.t 17),
    .fa 19 (.t 3) 2,
    .ld 20 1 false (.t 19),
    .bin 21 .neq .num (.t 18) (.t 20),
    .keep [21, 3, 2]])
  (.cond (.t 21)
    (.pre [.keep [], .drop [66, 67]] (.seq (.r [.mv 4 (.c (.d (.b false)))])
    (.ret)))
    (.pre [.kill [21]] (.skip))))
  (.seq (.seq (.r [.fa 22 (.t 2) 3,
    .ld 23 1 false (.t 22),
    .fa 24 (.t 3) 3,
    .ld 25 1 false (.t 24),
    .bin 26 .neq .num (.t 23) (.t 25),
    .keep [26, 3, 2]])
  (.cond (.t 26)
    (.pre [.keep [], .drop [66, 67]] (.seq (.r [.mv 4 (.c (.d (.b false)))])
    (.ret)))
    (.pre [.kill [26]] (.skip))))
  (.seq (.seq (.r [.fa 27 (.t 2) 4,
    .ld 28 1 false (.t 27),
    .fa 29 (.t 3) 4,
    .ld 30 1 false (.t 29),
    .call 31 true [] (.c (.clo weqIntS [])) [(.t 28), (.t 30)],
    .not 32 (.t 31),
    .keep [32, 3, 2]])
  (.cond (.t 32)
    (.pre [.keep [], .drop [66, 67]] (.seq (.r [.mv 4 (.c (.d (.b false)))])
    (.ret)))
    (.pre [.kill [32]] (.skip))))
  (.seq (.seq (.r [.fa 33 (.t 2) 5,
    .ld 34 1 false (.t 33),
    .fa 35 (.t 3) 5,
    .ld 36 1 false (.t 35),
    .call 37 true [] (.c (.clo weqIntS [])) [(.t 34), (.t 36)],
    .kill [2, 3, 33, 34, 35, 36],
    .not 38 (.t 37),
    .keep [38],
    .drop [66, 67]])
  (.cond (.t 38)
    (.pre [.keep []] (.seq (.r [.mv 4 (.c (.d (.b false)))])
    (.ret)))
    (.pre [.keep []] (.skip))))
  (.seq (.r [.mv 4 (.c (.d (.b true)))])
  (.ret))))))))⟩
/-- live: [0, 1, 5]; objects: [] -/
def wszResS_l0 : C :=
  .seq (.seq (.r [.mv 12 (.t 5),
      .mv 13 (.t 0),
      .len 14 (.t 13),
      .bin 15 .lss .num (.t 12) (.t 14),
      .kill [12, 13, 14]])
    (.cond (.t 15)
      (.pre [.kill [15]] (.skip))
      (.pre [.keep [1]] (.ex 0))))
    (.seq (.blk 1 (.seq (.r [.mv 18 (.t 0),
      .mv 19 (.t 5),
      .ia 20 5 (.t 18) (.t 19),
      .ld 21 5 true (.t 20),
      .mv 22 (.t 1),
      .call 23 true [] (.c (.clo wszRes [])) [(.t 21), (.t 22)],
      .kill [1, 18, 19, 20, 21, 22],
      .mv 1 (.t 23),
      .keep [5, 1, 0]])
    (.seq (.r [.mv 24 (.t 1),
      .bin 25 .lss .num (.t 24) (.c (.d (.i .i64 0))),
      .kill [24]])
    (.cond (.t 25)
      (.pre [.keep []] (.seq (.r [.mv 4 (.c (.d (.i .i64 (-1))))])
      (.ret)))
      (.pre [.kill [25]] (.skip))))))
    (.r [.mv 16 (.t 5),
      .bin 17 .add .num (.t 16) (.c (.d (.i .i64 1))),
      .mv 5 (.t 17),
      .kill [16, 17]]))
def wszResS_m : Fn := ⟨2, [.t 4], false,
  .seq (.r [.mv 4 (.c (.d (.i .i64 0))),
    .kill [4]])
  (.seq (.r [.mv 6 (.t 1),
    .mv 7 (.t 0),
    .len 8 (.t 7),
    .bin 9 .sub .num (.t 6) (.t 8),
    .mv 1 (.t 9),
    .keep [1, 0]])
  (.seq (.seq (.r [.mv 10 (.t 1),
    .bin 11 .lss .num (.t 10) (.c (.d (.i .i64 0))),
    .kill [10]])
  (.cond (.t 11)
    (.pre [.keep []] (.seq (.r [.mv 4 (.c (.d (.i .i64 (-1))))])
    (.ret)))
    (.pre [.kill [11]] (.skip))))
  (.seq (.seq (.r [.mv 5 (.c (.d (.i .i64 0)))])
  (.blk 0 (.pre [.keep [5, 1, 0]] (.loop wszResS_l0))))
  (.seq (.r [.mv 26 (.t 1),
    .mv 4 (.t 26),
    .keep [4]])
  (.ret)))))⟩
/-- live: [0, 1, 5]; objects: [] -/
def wszLockS_l0 : C :=
  .seq (.seq (.r [.mv 12 (.t 5),
      .mv 13 (.t 0),
      .len 14 (.t 13),
      .bin 15 .lss .num (.t 12) (.t 14),
      .kill [12, 13, 14]])
    (.cond (.t 15)
      (.pre [.kill [15]] (.skip))
      (.pre [.keep [1]] (.ex 0))))
    (.seq (.blk 1 (.seq (.r [.mv 18 (.t 0),
      .mv 19 (.t 5),
      .ia 20 5 (.t 18) (.t 19),
      .ld 21 5 true (.t 20),
      .mv 22 (.t 1),
      .call 23 true [] (.c (.clo wszLock [])) [(.t 21), (.t 22)],
      .kill [1, 18, 19, 20, 21, 22],
      .mv 1 (.t 23),
      .keep [5, 1, 0]])
    (.seq (.r [.mv 24 (.t 1),
      .bin 25 .lss .num (.t 24) (.c (.d (.i .i64 0))),
      .kill [24]])
    (.cond (.t 25)
      (.pre [.keep []] (.seq (.r [.mv 4 (.c (.d (.i .i64 (-1))))])
      (.ret)))
      (.pre [.kill [25]] (.skip))))))
    (.r [.mv 16 (.t 5),
      .bin 17 .add .num (.t 16) (.c (.d (.i .i64 1))),
      .mv 5 (.t 17),
      .kill [16, 17]]))
def wszLockS_m : Fn := ⟨2, [.t 4], false,
  .seq (.r [.mv 4 (.c (.d (.i .i64 0))),
    .kill [4]])
  (.seq (.r [.mv 6 (.t 1),
    .mv 7 (.t 0),
    .len 8 (.t 7),
    .bin 9 .sub .num (.t 6) (.t 8),
    .mv 1 (.t 9),
    .keep [1, 0]])
  (.seq (.seq (.r [.mv 10 (.t 1),
    .bin 11 .lss .num (.t 10) (.c (.d (.i .i64 0))),
    .kill [10]])
  (.cond (.t 11)
    (.pre [.keep []] (.seq (.r [.mv 4 (.c (.d (.i .i64 (-1))))])
    (.ret)))
    (.pre [.kill [11]] (.skip))))
  (.seq (.seq (.r [.mv 5 (.c (.d (.i .i64 0)))])
  (.blk 0 (.pre [.keep [5, 1, 0]] (.loop wszLockS_l0))))
  (.seq (.r [.mv 26 (.t 1),
    .mv 4 (.t 26),
    .keep [4]])
  (.ret)))))⟩
def wszIntS_m : Fn := ⟨2, [.t 4], false,
  .seq (.r [.mv 4 (.c (.d (.i .i64 0))),
    .kill [4]])
  (.seq (.r [.mv 5 (.t 1),
    .mv 6 (.t 0),
    .len 7 (.t 6),
    .bin 8 .sub .num (.t 5) (.t 7),
    .kill [0, 1, 5, 6, 7],
    .mv 1 (.t 8),
    .keep [1]])
  (.seq (.seq (.r [.mv 9 (.t 1),
    .bin 10 .lss .num (.t 9) (.c (.d (.i .i64 0))),
    .kill [9]])
  (.cond (.t 10)
    (.pre [.keep []] (.seq (.r [.mv 4 (.c (.d (.i .i64 (-1))))])
    (.ret)))
    (.pre [.kill [10]] (.skip))))
  (.seq (.r [.mv 11 (.t 1),
    .mv 4 (.t 11),
    .keep [4]])
  (.ret))))⟩
/-- live: [1, 3]; objects: [65] -/
def sSrvOk_l0 : C :=
  .seq (.seq (.r [.mv 6 (.t 3),
      .fa 7 (.t 1) 0,
      .ld 8 1 false (.t 7),
      .len 9 (.t 8),
      .bin 10 .lss .num (.t 6) (.t 9),
      .keep [10, 3, 1]])
    (.cond (.t 10)
      (.pre [.kill [10]] (.skip))
      (.pre [.keep [1]] (.ex 0))))
    (.seq (.blk 1 (.seq (.post (.r [.fa 13 (.t 1) 0,
      .ld 14 1 false (.t 13),
      .mv 15 (.t 3),
      .ia 16 5 (.t 14) (.t 15),
      .fa 17 (.t 16) 3,
      .ld 18 1 false (.t 17),
      .fa 19 (.t 1) 3,
      .ld 20 1 false (.t 19),
      .bin 21 .geq .num (.t 18) (.t 20)]) [.keep [21, 3, 1]])
    (.cond (.t 21)
      (.pre [.keep [], .drop [65]] (.seq (.r [.mv 2 (.c (.d (.b false)))])
      (.ret)))
      (.pre [.kill [21]] (.skip)))))
    (.r [.mv 11 (.t 3),
      .bin 12 .add .num (.t 11) (.c (.d (.i .i64 1))),
      .mv 3 (.t 12),
      .kill [11, 12]]))
/-- live: [1, 4]; objects: [65] -/
def sSrvOk_l1 : C :=
  .seq (.seq (.r [.mv 22 (.t 4),
      .fa 23 (.t 1) 1,
      .ld 24 1 false (.t 23),
      .len 25 (.t 24),
      .bin 26 .lss .num (.t 22) (.t 25),
      .keep [26, 4, 1]])
    (.cond (.t 26)
      (.pre [.kill [26]] (.skip))
      (.pre [.keep [1]] (.ex 2))))
    (.seq (.blk 3 (.seq (.post (.r [.fa 29 (.t 1) 5,
      .ld 30 1 false (.t 29),
      .fa 31 (.t 1) 1,
      .ld 32 1 false (.t 31),
      .mv 33 (.t 4),
      .ia 34 5 (.t 32) (.t 33),
      .fa 35 (.t 34) 0,
      .ld 36 1 false (.t 35),
      .call 37 true [] (.c (.clo sl13Has [])) [(.t 30), (.t 36)],
      .not 38 (.t 37)]) [.keep [38, 4, 1]])
    (.cond (.t 38)
      (.pre [.keep [], .drop [65]] (.seq (.r [.mv 2 (.c (.d (.b false)))])
      (.ret)))
      (.pre [.kill [38]] (.skip)))))
    (.r [.mv 27 (.t 4),
      .bin 28 .add .num (.t 27) (.c (.d (.i .i64 1))),
      .mv 4 (.t 28),
      .kill [27, 28]]))
/-- live: [1, 5]; objects: [65] -/
def sSrvOk_l2 : C :=
  .seq (.seq (.r [.mv 39 (.t 5),
      .fa 40 (.t 1) 5,
      .ld 41 1 false (.t 40),
      .len 42 (.t 41),
      .bin 43 .lss .num (.t 39) (.t 42),
      .keep [43, 5, 1]])
    (.cond (.t 43)
      (.pre [.kill [43]] (.skip))
      (.pre [.keep [1]] (.ex 4))))
    (.seq (.blk 5 (.seq (.post (.r [.fa 46 (.t 1) 5,
      .ld 47 1 false (.t 46),
      .mv 48 (.t 5),
      .ia 49 1 (.t 47) (.t 48),
      .ld 50 1 false (.t 49),
      .call 51 true [] (.c (.clo sl1In [])) [(.t 50), (.c (.d (.i .i64 1))), (.c (.d (.i .i64 9999)))],
      .not 52 (.t 51),
      .mv 53 (.t 52),
      .gd 53 false (some 54) (.mv 54 (.t 5)),
      .gd 53 false (some 55) (.bin 55 .gtr .num (.t 54) (.c (.d (.i .i64 0)))),
      .gd 53 false (some 56) (.mv 56 (.t 55)),
      .gd 56 true (some 57) (.fa 57 (.t 1) 5),
      .gd 56 true (some 58) (.ld 58 1 false (.t 57)),
      .gd 56 true (some 59) (.mv 59 (.t 5)),
      .gd 56 true (some 60) (.bin 60 .sub .num (.t 59) (.c (.d (.i .i64 1)))),
      .gd 56 true (some 61) (.ia 61 1 (.t 58) (.t 60)),
      .gd 56 true (some 62) (.ld 62 1 false (.t 61)),
      .gd 56 true (some 63) (.fa 63 (.t 1) 5),
      .gd 56 true (some 64) (.ld 64 1 false (.t 63)),
      .gd 56 true (some 65) (.mv 65 (.t 5)),
      .gd 56 true (some 66) (.ia 66 1 (.t 64) (.t 65)),
      .gd 56 true (some 67) (.ld 67 1 false (.t 66)),
      .gd 56 true (some 68) (.bin 68 .geq .num (.t 62) (.t 67)),
      .gd 53 false (some 69) (.pick 69 (.t 56) (.t 68) (.c (.d (.b false)))),
      .pick 70 (.t 53) (.c (.d (.b true))) (.t 69)]) [.keep [70, 5, 1]])
    (.cond (.t 70)
      (.pre [.keep [], .drop [65]] (.seq (.r [.mv 2 (.c (.d (.b false)))])
      (.ret)))
      (.pre [.kill [70]] (.skip)))))
    (.r [.mv 44 (.t 5),
      .bin 45 .add .num (.t 44) (.c (.d (.i .i64 1))),
      .mv 5 (.t 45),
      .kill [44, 45]]))
def sSrvOk_m : Fn := ⟨1, [.t 2], false,
  .seq (.r [.bx 1 TSrv true (.t 0),
    .mv 2 (.c (.d (.b false))),
    .keep [1]])
  (.seq (.seq (.r [.mv 3 (.c (.d (.i .i64 0)))])
  (.blk 0 (.pre [.keep [3, 1]] (.loop sSrvOk_l0))))
  (.seq (.seq (.r [.mv 4 (.c (.d (.i .i64 0)))])
  (.blk 2 (.pre [.keep [4, 1]] (.loop sSrvOk_l1))))
  (.seq (.seq (.r [.mv 5 (.c (.d (.i .i64 0)))])
  (.blk 4 (.pre [.keep [5, 1]] (.loop sSrvOk_l2))))
  (.seq (.r [.fa 71 (.t 1) 0,
    .ld 72 1 false (.t 71),
    .call 73 true [] (.c (.clo sTreeOk [])) [(.t 72)],
    .mv 74 (.t 73),
    .gd 74 true (some 75) (.fa 75 (.t 1) 1),
    .gd 74 true (some 76) (.ld 76 1 false (.t 75)),
    .gd 74 true (some 77) (.call 77 true [] (.c (.clo sLocksOk [])) [(.t 76)]),
    .kill [71, 72, 73, 75, 76],
    .pick 78 (.t 74) (.t 77) (.c (.d (.b false))),
    .mv 79 (.t 78),
    .gd 79 true (some 80) (.fa 80 (.t 1) 2),
    .gd 79 true (some 81) (.ld 81 1 false (.t 80)),
    .gd 79 true (some 82) (.call 82 true [] (.c (.clo sl1In [])) [(.t 81), (.c (.d (.i .i64 0))), (.c (.d (.i .i64 9999999)))]),
    .kill [74, 77, 78, 80, 81],
    .pick 83 (.t 79) (.t 82) (.c (.d (.b false))),
    .mv 84 (.t 83),
    .gd 84 true (some 85) (.fa 85 (.t 1) 3),
    .gd 84 true (some 86) (.ld 86 1 false (.t 85)),
    .gd 84 true (some 87) (.call 87 true [] (.c (.clo sl1In [])) [(.t 86), (.c (.d (.i .i64 1))), (.c (.d (.i .i64 100000)))]),
    .kill [79, 82, 83, 85, 86],
    .pick 88 (.t 84) (.t 87) (.c (.d (.b false))),
    .mv 89 (.t 88),
    .gd 89 true (some 90) (.fa 90 (.t 1) 4),
    .gd 89 true (some 91) (.ld 91 1 false (.t 90)),
    .kill [1, 84, 87, 88, 90],
    .gd 89 true (some 92) (.len 92 (.t 91)),
    .gd 89 true (some 93) (.bin 93 .leq .num (.t 92) (.c (.d (.i .i64 20)))),
    .pick 94 (.t 89) (.t 93) (.c (.d (.b false))),
    .mv 2 (.t 94),
    .keep [2],
    .drop [65]])
  (.ret)))))⟩
/-- live: [1, 3]; objects: [65] -/
def sHeld_l0 : C :=
  .seq (.seq (.r [.mv 6 (.t 3),
      .fa 7 (.t 1) 1,
      .ld 8 1 false (.t 7),
      .len 9 (.t 8),
      .bin 10 .lss .num (.t 6) (.t 9),
      .keep [10, 3, 1]])
    (.cond (.t 10)
      (.pre [.kill [10]] (.skip))
      (.pre [.keep [], .drop [65]] (.ex 0))))
    (.seq (.blk 1 (.seq (.post (.r [.ld 14 6 true (.t 1),
      .fa 15 (.t 1) 1,
      .ld 16 1 false (.t 15),
      .mv 17 (.t 3),
      .ia 18 5 (.t 16) (.t 17),
      .fa 19 (.t 18) 1,
      .ld 20 1 false (.t 19),
      .call 21 true [] (.c (.clo sTagAt [])) [(.t 14), (.t 20)],
      .mv 13 (.t 21),
      .ext 22 (.t 13) 0,
      .ext 23 (.t 13) 1,
      .mv 4 (.t 22),
      .mv 5 (.t 23)]) [.keep [5, 3, 1]])
    (.seq (.r [.mv 24 (.t 5),
      .not 25 (.t 24),
      .kill [5, 24]])
    (.cond (.t 25)
      (.pre [.keep [], .drop [65]] (.seq (.r [.mv 2 (.c (.d (.b false)))])
      (.ret)))
      (.pre [.kill [25]] (.skip))))))
    (.r [.mv 11 (.t 3),
      .bin 12 .add .num (.t 11) (.c (.d (.i .i64 1))),
      .mv 3 (.t 12),
      .kill [11, 12]]))
def sHeld_m : Fn := ⟨1, [.t 2], false,
  .seq (.r [.bx 1 TSrv true (.t 0),
    .mv 2 (.c (.d (.b false))),
    .keep [1]])
  (.seq (.seq (.r [.mv 3 (.c (.d (.i .i64 0)))])
  (.blk 0 (.pre [.keep [3, 1]] (.loop sHeld_l0))))
  (.seq (.r [.mv 2 (.c (.d (.b true)))])
  (.ret)))⟩
/-- live: [0, 3, 4]; objects: [71] -/
def wtoResS_l0 : C :=
  .seq (.seq (.r [.mv 8 (.t 4),
      .mv 9 (.t 0),
      .len 10 (.t 9),
      .bin 11 .lss .num (.t 8) (.t 10),
      .kill [8, 9, 10]])
    (.cond (.t 11)
      (.pre [.kill [11]] (.skip))
      (.pre [.keep [3]] (.ex 0))))
    (.seq (.blk 1 (.r [.mv 14 (.t 3),
      .mv 15 (.t 4),
      .mv 16 (.t 0),
      .mv 17 (.t 4),
      .ia 18 5 (.t 16) (.t 17),
      .ld 19 5 true (.t 18),
      .call 20 false [] (.c (.clo wtoRes [])) [(.t 19)],
      .ia 21 5 (.t 14) (.t 15),
      .kill [14, 15, 16, 17, 18, 19],
      .st 5 (.t 21) (.t 20),
      .keep [4, 3, 0],
      .drop [21064, 21068]]))
    (.r [.mv 12 (.t 4),
      .bin 13 .add .num (.t 12) (.c (.d (.i .i64 1))),
      .mv 4 (.t 13),
      .kill [12, 13]]))
def wtoResS_m : Fn := ⟨1, [.t 2], false,
  .seq (.r [.mv 2 (.c (.nil TRes)),
    .opn 2 2 false,
    .kill [2],
    .drop [66]])
  (.seq (.r [.mv 5 (.t 0),
    .len 6 (.t 5),
    .mk 7 TRes 80 (.t 6),
    .mv 3 (.t 7),
    .keep [3, 0]])
  (.seq (.seq (.r [.mv 4 (.c (.d (.i .i64 0)))])
  (.blk 0 (.pre [.keep [4, 3, 0]] (.loop wtoResS_l0))))
  (.seq (.r [.mv 22 (.t 3),
    .mv 2 (.t 22),
    .ren 71 66,
    .keep [2],
    .drop [71]])
  (.ret))))⟩
/-- live: [0, 3, 4]; objects: [71] -/
def wtoLockS_l0 : C :=
  .seq (.seq (.r [.mv 8 (.t 4),
      .mv 9 (.t 0),
      .len 10 (.t 9),
      .bin 11 .lss .num (.t 8) (.t 10),
      .kill [8, 9, 10]])
    (.cond (.t 11)
      (.pre [.kill [11]] (.skip))
      (.pre [.keep [3]] (.ex 0))))
    (.seq (.blk 1 (.r [.mv 14 (.t 3),
      .mv 15 (.t 4),
      .mv 16 (.t 0),
      .mv 17 (.t 4),
      .ia 18 5 (.t 16) (.t 17),
      .ld 19 5 true (.t 18),
      .call 20 false [] (.c (.clo wtoLock [])) [(.t 19)],
      .ia 21 5 (.t 14) (.t 15),
      .kill [14, 15, 16, 17, 18, 19],
      .st 5 (.t 21) (.t 20),
      .keep [4, 3, 0],
      .drop [21065]]))
    (.r [.mv 12 (.t 4),
      .bin 13 .add .num (.t 12) (.c (.d (.i .i64 1))),
      .mv 4 (.t 13),
      .kill [12, 13]]))
def wtoLockS_m : Fn := ⟨1, [.t 2], false,
  .seq (.r [.mv 2 (.c (.nil TLock)),
    .opn 2 2 false,
    .kill [2],
    .drop [66]])
  (.seq (.r [.mv 5 (.t 0),
    .len 6 (.t 5),
    .mk 7 TLock 48 (.t 6),
    .mv 3 (.t 7),
    .keep [3, 0]])
  (.seq (.seq (.r [.mv 4 (.c (.d (.i .i64 0)))])
  (.blk 0 (.pre [.keep [4, 3, 0]] (.loop wtoLockS_l0))))
  (.seq (.r [.mv 22 (.t 3),
    .mv 2 (.t 22),
    .ren 71 66,
    .keep [2],
    .drop [71]])
  (.ret))))⟩
/-- live: [0, 3, 4]; objects: [71] -/
def wtoIntS_l0 : C :=
  .seq (.seq (.r [.mv 8 (.t 4),
      .mv 9 (.t 0),
      .len 10 (.t 9),
      .bin 11 .lss .num (.t 8) (.t 10),
      .kill [8, 9, 10]])
    (.cond (.t 11)
      (.pre [.kill [11]] (.skip))
      (.pre [.keep [3]] (.ex 0))))
    (.seq (.blk 1 (.r [.mv 14 (.t 3),
      .mv 15 (.t 4),
      .mv 16 (.t 0),
      .mv 17 (.t 4),
      .ia 18 1 (.t 16) (.t 17),
      .ld 19 1 false (.t 18),
      .ia 20 1 (.t 14) (.t 15),
      .kill [14, 15, 16, 17, 18],
      .st 1 (.t 20) (.t 19),
      .keep [4, 3, 0]]))
    (.r [.mv 12 (.t 4),
      .bin 13 .add .num (.t 12) (.c (.d (.i .i64 1))),
      .mv 4 (.t 13),
      .kill [12, 13]]))
def wtoIntS_m : Fn := ⟨1, [.t 2], false,
  .seq (.r [.mv 2 (.c (.nil (.int .i64))),
    .opn 2 2 false,
    .kill [2],
    .drop [66]])
  (.seq (.r [.mv 5 (.t 0),
    .len 6 (.t 5),
    .mk 7 (.int .i64) 8 (.t 6),
    .mv 3 (.t 7),
    .keep [3, 0]])
  (.seq (.seq (.r [.mv 4 (.c (.d (.i .i64 0)))])
  (.blk 0 (.pre [.keep [4, 3, 0]] (.loop wtoIntS_l0))))
  (.seq (.r [.mv 21 (.t 3),
    .mv 2 (.t 21),
    .ren 71 66,
    .keep [2],
    .drop [71]])
  (.ret))))⟩
/-- live: [1, 42, 43, 44]; objects: [65] -/
def iSrvOk_l0 : C :=
  .seq (.r [.bin 45 .lss .num (.t 44) (.t 43)])
    (.seq (.cond (.t 45)
      (.pre [.kill [45]] (.skip))
      (.pre [.keep [1]] (.ex 0)))
    (.seq (.blk 1 (.seq (.r [.ia 46 5 (.t 42) (.t 44),
      .ld 47 5 true (.t 46),
      .al 4 TRes true,
      .st 5 (.t 4) (.t 47),
      .kill [46, 47]])
    (.seq (.r [.fa 48 (.t 4) 3,
      .ld 49 1 false (.t 48),
      .fa 50 (.t 1) 3,
      .ld 51 1 false (.t 50),
      .bin 52 .geq .num (.t 49) (.t 51),
      .kill [4, 48, 49, 50, 51],
      .drop [68]])
    (.cond (.t 52)
      (.pre [.keep [], .drop [65]] (.seq (.r [.mv 2 (.c (.d (.b false)))])
      (.ret)))
      (.pre [.kill [52]] (.skip))))))
    (.r [.bin 53 .add .num (.t 44) (.c (.d (.i .i64 1))),
      .mv 44 (.t 53),
      .kill [53]])))
/-- live: [1, 55, 56, 57]; objects: [65] -/
def iSrvOk_l1 : C :=
  .seq (.r [.bin 58 .lss .num (.t 57) (.t 56)])
    (.seq (.cond (.t 58)
      (.pre [.kill [58]] (.skip))
      (.pre [.keep [], .drop [65]] (.ex 2)))
    (.seq (.blk 3 (.seq (.r [.ia 59 5 (.t 55) (.t 57),
      .ld 60 5 true (.t 59),
      .al 6 TLock true,
      .st 5 (.t 6) (.t 60),
      .kill [59, 60]])
    (.seq (.r [.fa 61 (.t 1) 5,
      .ld 62 1 false (.t 61),
      .fa 63 (.t 6) 0,
      .ld 64 1 false (.t 63),
      .call 65 true [] (.c (.clo ihasInt [])) [(.t 62), (.t 64)],
      .kill [6, 61, 62, 63, 64],
      .not 66 (.t 65),
      .keep [66, 57, 56, 55, 1],
      .drop [70]])
    (.cond (.t 66)
      (.pre [.keep [], .drop [65]] (.seq (.r [.mv 2 (.c (.d (.b false)))])
      (.ret)))
      (.pre [.kill [66]] (.skip))))))
    (.r [.bin 67 .add .num (.t 57) (.c (.d (.i .i64 1))),
      .mv 57 (.t 67),
      .kill [67]])))
def iSrvOk_m : Fn := ⟨1, [.t 2], false,
  .seq (.r [.bx 1 TSrv true (.t 0),
    .mv 2 (.c (.d (.b false))),
    .keep [1]])
  (.seq (.seq (.r [.fa 7 (.t 1) 0,
    .ld 8 1 false (.t 7),
    .call 9 true [] (.c (.clo iTreeOk [])) [(.t 8)],
    .not 10 (.t 9),
    .mv 11 (.t 10),
    .gd 11 false (some 12) (.fa 12 (.t 1) 1),
    .gd 11 false (some 13) (.ld 13 1 false (.t 12)),
    .kill [7, 8, 9, 10, 12],
    .gd 11 false (some 14) (.call 14 true [] (.c (.clo iLocksOk [])) [(.t 13)]),
    .gd 11 false (some 15) (.not 15 (.t 14)),
    .pick 16 (.t 11) (.c (.d (.b true))) (.t 15),
    .mv 17 (.t 16),
    .kill [11, 13, 14, 15, 16],
    .gd 17 false (some 18) (.fa 18 (.t 1) 2),
    .gd 17 false (some 19) (.ld 19 1 false (.t 18)),
    .gd 17 false (some 20) (.call 20 true [] (.c (.clo iin [])) [(.t 19), (.c (.d (.i .i64 0))), (.c (.d (.i .i64 9999999)))]),
    .gd 17 false (some 21) (.not 21 (.t 20)),
    .pick 22 (.t 17) (.c (.d (.b true))) (.t 21),
    .kill [17, 18, 19, 20, 21],
    .mv 23 (.t 22),
    .gd 23 false (some 24) (.fa 24 (.t 1) 3),
    .gd 23 false (some 25) (.ld 25 1 false (.t 24)),
    .gd 23 false (some 26) (.call 26 true [] (.c (.clo iin [])) [(.t 25), (.c (.d (.i .i64 1))), (.c (.d (.i .i64 100000)))]),
    .gd 23 false (some 27) (.not 27 (.t 26)),
    .pick 28 (.t 23) (.c (.d (.b true))) (.t 27),
    .kill [22, 23, 24, 25, 26, 27],
    .mv 29 (.t 28),
    .gd 29 false (some 30) (.fa 30 (.t 1) 4),
    .gd 29 false (some 31) (.ld 31 1 false (.t 30)),
    .gd 29 false (some 32) (.len 32 (.t 31)),
    .gd 29 false (some 33) (.bin 33 .gtr .num (.t 32) (.c (.d (.i .i64 20)))),
    .pick 34 (.t 29) (.c (.d (.b true))) (.t 33),
    .kill [28, 29, 30, 31, 32, 33],
    .mv 35 (.t 34),
    .gd 35 false (some 36) (.fa 36 (.t 1) 5),
    .gd 35 false (some 37) (.ld 37 1 false (.t 36)),
    .gd 35 false (some 38) (.call 38 true [] (.c (.clo iusedOk [])) [(.t 37)]),
    .gd 35 false (some 39) (.not 39 (.t 38)),
    .pick 40 (.t 35) (.c (.d (.b true))) (.t 39),
    .keep [40, 1]])
  (.cond (.t 40)
    (.pre [.keep [], .drop [65]] (.seq (.r [.mv 2 (.c (.d (.b false)))])
    (.ret)))
    (.pre [.kill [40]] (.skip))))
  (.seq (.seq (.r [.fa 41 (.t 1) 0,
    .ld 42 1 false (.t 41),
    .len 43 (.t 42),
    .mv 44 (.c (.d (.i .i64 0))),
    .kill [41]])
  (.blk 0 (.pre [.keep [44, 43, 42, 1]] (.loop iSrvOk_l0))))
  (.seq (.seq (.r [.fa 54 (.t 1) 1,
    .ld 55 1 false (.t 54),
    .len 56 (.t 55),
    .mv 57 (.c (.d (.i .i64 0))),
    .kill [54]])
  (.blk 2 (.pre [.keep [57, 56, 55, 1]] (.loop iSrvOk_l1))))
  (.seq (.r [.mv 2 (.c (.d (.b true)))])
  (.ret)))))⟩
/-- live: [1, 8, 9, 10]; objects: [65] -/
def iHeld_l0 : C :=
  .seq (.r [.bin 11 .lss .num (.t 10) (.t 9)])
    (.seq (.cond (.t 11)
      (.pre [.kill [11]] (.skip))
      (.pre [.keep [], .drop [65]] (.ex 0)))
    (.seq (.blk 1 (.seq (.r [.ia 12 5 (.t 8) (.t 10),
      .ld 13 5 true (.t 12),
      .al 4 TLock true,
      .st 5 (.t 4) (.t 13),
      .kill [12, 13]])
    (.seq (.r [.ld 15 6 true (.t 1),
      .fa 16 (.t 4) 1,
      .ld 17 1 false (.t 16),
      .call 18 true [] (.c (.clo iTagAt [])) [(.t 15), (.t 17)],
      .mv 14 (.t 18),
      .kill [4, 15, 16, 17, 18],
      .ext 19 (.t 14) 0,
      .ext 20 (.t 14) 1,
      .mv 5 (.t 19),
      .mv 6 (.t 20),
      .keep [10, 9, 8, 6, 1],
      .drop [68]])
    (.seq (.r [.mv 21 (.t 6),
      .not 22 (.t 21),
      .kill [6, 21]])
    (.cond (.t 22)
      (.pre [.keep [], .drop [65]] (.seq (.r [.mv 2 (.c (.d (.b false)))])
      (.ret)))
      (.pre [.kill [22]] (.skip)))))))
    (.r [.bin 23 .add .num (.t 10) (.c (.d (.i .i64 1))),
      .mv 10 (.t 23),
      .kill [23]])))
def iHeld_m : Fn := ⟨1, [.t 2], false,
  .seq (.r [.bx 1 TSrv true (.t 0),
    .mv 2 (.c (.d (.b false))),
    .keep [1]])
  (.seq (.seq (.r [.fa 7 (.t 1) 1,
    .ld 8 1 false (.t 7),
    .len 9 (.t 8),
    .mv 10 (.c (.d (.i .i64 0))),
    .kill [7]])
  (.blk 0 (.pre [.keep [10, 9, 8, 1]] (.loop iHeld_l0))))
  (.seq (.r [.mv 2 (.c (.d (.b true)))])
  (.ret)))⟩
/-- live: [0, 1, 5]; objects: [] -/
def weqResS_l0 : C :=
  .seq (.seq (.r [.mv 11 (.t 5),
      .mv 12 (.t 0),
      .len 13 (.t 12),
      .bin 14 .lss .num (.t 11) (.t 13),
      .kill [11, 12, 13]])
    (.cond (.t 14)
      (.pre [.kill [14]] (.skip))
      (.pre [.keep []] (.ex 0))))
    (.seq (.blk 1 (.seq (.post (.r [.mv 17 (.t 0),
      .mv 18 (.t 5),
      .ia 19 5 (.t 17) (.t 18),
      .ld 20 5 true (.t 19),
      .mv 21 (.t 1),
      .mv 22 (.t 5),
      .ia 23 5 (.t 21) (.t 22),
      .ld 24 5 true (.t 23),
      .call 25 true [] (.c (.clo weqRes [])) [(.t 20), (.t 24)],
      .not 26 (.t 25)]) [.keep [26, 5, 1, 0]])
    (.cond (.t 26)
      (.pre [.keep []] (.seq (.r [.mv 4 (.c (.d (.b false)))])
      (.ret)))
      (.pre [.kill [26]] (.skip)))))
    (.r [.mv 15 (.t 5),
      .bin 16 .add .num (.t 15) (.c (.d (.i .i64 1))),
      .mv 5 (.t 16),
      .kill [15, 16]]))
def weqResS_m : Fn := ⟨2, [.t 4], false,
  .seq (.r [.mv 4 (.c (.d (.b false))),
    .kill [4]])
  (.seq (.seq (.r [.mv 6 (.t 0),
    .len 7 (.t 6),
    .mv 8 (.t 1),
    .len 9 (.t 8),
    .bin 10 .neq .num (.t 7) (.t 9),
    .keep [10, 1, 0]])
  (.cond (.t 10)
    (.pre [.keep []] (.seq (.r [.mv 4 (.c (.d (.b false)))])
    (.ret)))
    (.pre [.kill [10]] (.skip))))
  (.seq (.seq (.r [.mv 5 (.c (.d (.i .i64 0)))])
  (.blk 0 (.pre [.keep [5, 1, 0]] (.loop weqResS_l0))))
  (.seq (.r [.mv 4 (.c (.d (.b true)))])
  (.ret))))⟩
/-- live: [0, 1, 5]; objects: [] -/
def weqLockS_l0 : C :=
  .seq (.seq (.r [.mv 11 (.t 5),
      .mv 12 (.t 0),
      .len 13 (.t 12),
      .bin 14 .lss .num (.t 11) (.t 13),
      .kill [11, 12, 13]])
    (.cond (.t 14)
      (.pre [.kill [14]] (.skip))
      (.pre [.keep []] (.ex 0))))
    (.seq (.blk 1 (.seq (.post (.r [.mv 17 (.t 0),
      .mv 18 (.t 5),
      .ia 19 5 (.t 17) (.t 18),
      .ld 20 5 true (.t 19),
      .mv 21 (.t 1),
      .mv 22 (.t 5),
      .ia 23 5 (.t 21) (.t 22),
      .ld 24 5 true (.t 23),
      .call 25 true [] (.c (.clo weqLock [])) [(.t 20), (.t 24)],
      .not 26 (.t 25)]) [.keep [26, 5, 1, 0]])
    (.cond (.t 26)
      (.pre [.keep []] (.seq (.r [.mv 4 (.c (.d (.b false)))])
      (.ret)))
      (.pre [.kill [26]] (.skip)))))
    (.r [.mv 15 (.t 5),
      .bin 16 .add .num (.t 15) (.c (.d (.i .i64 1))),
      .mv 5 (.t 16),
      .kill [15, 16]]))
def weqLockS_m : Fn := ⟨2, [.t 4], false,
  .seq (.r [.mv 4 (.c (.d (.b false))),
    .kill [4]])
  (.seq (.seq (.r [.mv 6 (.t 0),
    .len 7 (.t 6),
    .mv 8 (.t 1),
    .len 9 (.t 8),
    .bin 10 .neq .num (.t 7) (.t 9),
    .keep [10, 1, 0]])
  (.cond (.t 10)
    (.pre [.keep []] (.seq (.r [.mv 4 (.c (.d (.b false)))])
    (.ret)))
    (.pre [.kill [10]] (.skip))))
  (.seq (.seq (.r [.mv 5 (.c (.d (.i .i64 0)))])
  (.blk 0 (.pre [.keep [5, 1, 0]] (.loop weqLockS_l0))))
  (.seq (.r [.mv 4 (.c (.d (.b true)))])
  (.ret))))⟩
/-- live: [0, 1, 5]; objects: [] -/
def weqIntS_l0 : C :=
  .seq (.seq (.r [.mv 11 (.t 5),
      .mv 12 (.t 0),
      .len 13 (.t 12),
      .bin 14 .lss .num (.t 11) (.t 13),
      .kill [11, 12, 13]])
    (.cond (.t 14)
      (.pre [.kill [14]] (.skip))
      (.pre [.keep []] (.ex 0))))
    (.seq (.blk 1 (.seq (.post (.r [.mv 17 (.t 0),
      .mv 18 (.t 5),
      .ia 19 1 (.t 17) (.t 18),
      .ld 20 1 false (.t 19),
      .mv 21 (.t 1),
      .mv 22 (.t 5),
      .ia 23 1 (.t 21) (.t 22),
      .ld 24 1 false (.t 23),
      .bin 25 .neq .num (.t 20) (.t 24)]) [.keep [25, 5, 1, 0]])
    (.cond (.t 25)
      (.pre [.keep []] (.seq (.r [.mv 4 (.c (.d (.b false)))])
      (.ret)))
      (.pre [.kill [25]] (.skip)))))
    (.r [.mv 15 (.t 5),
      .bin 16 .add .num (.t 15) (.c (.d (.i .i64 1))),
      .mv 5 (.t 16),
      .kill [15, 16]]))
def weqIntS_m : Fn := ⟨2, [.t 4], false,
  .seq (.r [.mv 4 (.c (.d (.b false))),
    .kill [4]])
  (.seq (.seq (.r [.mv 6 (.t 0),
    .len 7 (.t 6),
    .mv 8 (.t 1),
    .len 9 (.t 8),
    .bin 10 .neq .num (.t 7) (.t 9),
    .keep [10, 1, 0]])
  (.cond (.t 10)
    (.pre [.keep []] (.seq (.r [.mv 4 (.c (.d (.b false)))])
    (.ret)))
    (.pre [.kill [10]] (.skip))))
  (.seq (.seq (.r [.mv 5 (.c (.d (.i .i64 0)))])
  (.blk 0 (.pre [.keep [5, 1, 0]] (.loop weqIntS_l0))))
  (.seq (.r [.mv 4 (.c (.d (.b true)))])
  (.ret))))⟩
def wszRes_m : Fn := ⟨2, [.t 4], false,
  .seq (.r [.bx 2 TRes true (.t 0),
    .mv 4 (.c (.d (.i .i64 0))),
    .kill [0, 4]])
  (.seq (.r [.fa 5 (.t 2) 0,
    .ld 6 1 false (.t 5),
    .mv 7 (.t 1),
    .call 8 true [] (.c (.clo wszStringS [])) [(.t 6), (.t 7)],
    .mv 1 (.t 8),
    .keep [2, 1]])
  (.seq (.seq (.r [.mv 9 (.t 1),
    .bin 10 .lss .num (.t 9) (.c (.d (.i .i64 0))),
    .kill [9]])
  (.cond (.t 10)
    (.pre [.keep [], .drop [66]] (.seq (.r [.mv 4 (.c (.d (.i .i64 (-1))))])
    (.ret)))
    (.pre [.kill [10]] (.skip))))
  (.seq (.r [.mv 11 (.t 1),
    .fa 12 (.t 2) 2,
    .ld 13 1 false (.t 12),
    .lns 14 (.t 13),
    .bin 15 .sub .num (.t 11) (.t 14),
    .kill [1, 11, 12, 13, 14],
    .mv 1 (.t 15),
    .keep [2, 1]])
  (.seq (.seq (.r [.mv 16 (.t 1),
    .bin 17 .lss .num (.t 16) (.c (.d (.i .i64 0))),
    .kill [16]])
  (.cond (.t 17)
    (.pre [.keep [], .drop [66]] (.seq (.r [.mv 4 (.c (.d (.i .i64 (-1))))])
    (.ret)))
    (.pre [.kill [17]] (.skip))))
  (.seq (.r [.fa 18 (.t 2) 4,
    .ld 19 1 false (.t 18),
    .mv 20 (.t 1),
    .call 21 true [] (.c (.clo wszPropS [])) [(.t 19), (.t 20)],
    .kill [1, 2, 18, 19, 20],
    .mv 1 (.t 21),
    .keep [1],
    .drop [66]])
  (.seq (.seq (.r [.mv 22 (.t 1),
    .bin 23 .lss .num (.t 22) (.c (.d (.i .i64 0))),
    .kill [22]])
  (.cond (.t 23)
    (.pre [.keep []] (.seq (.r [.mv 4 (.c (.d (.i .i64 (-1))))])
    (.ret)))
    (.pre [.kill [23]] (.skip))))
  (.seq (.r [.mv 24 (.t 1),
    .mv 4 (.t 24),
    .keep [4]])
  (.ret))))))))⟩
def wszLock_m : Fn := ⟨2, [.t 4], false,
  .seq (.r [.bx 2 TLock true (.t 0),
    .mv 4 (.c (.d (.i .i64 0))),
    .kill [0, 4]])
  (.seq (.r [.fa 5 (.t 2) 1,
    .ld 6 1 false (.t 5),
    .mv 7 (.t 1),
    .call 8 true [] (.c (.clo wszStringS [])) [(.t 6), (.t 7)],
    .kill [1, 2, 5, 6, 7],
    .mv 1 (.t 8),
    .keep [1],
    .drop [66]])
  (.seq (.seq (.r [.mv 9 (.t 1),
    .bin 10 .lss .num (.t 9) (.c (.d (.i .i64 0))),
    .kill [9]])
  (.cond (.t 10)
    (.pre [.keep []] (.seq (.r [.mv 4 (.c (.d (.i .i64 (-1))))])
    (.ret)))
    (.pre [.kill [10]] (.skip))))
  (.seq (.r [.mv 11 (.t 1),
    .mv 4 (.t 11),
    .keep [4]])
  (.ret))))⟩
def sl1In_m : Fn := ⟨3, [.t 6], false,
  .seq (.r [.mv 6 (.c (.d (.b false))),
    .kill [6]])
  (.seq (.r [.mv 7 (.t 0),
    .mv 8 (.t 1),
    .bin 9 .geq .num (.t 7) (.t 8),
    .mv 10 (.t 9),
    .gd 10 true (some 11) (.mv 11 (.t 0)),
    .kill [0, 1, 7, 8, 9],
    .gd 10 true (some 12) (.mv 12 (.t 2)),
    .gd 10 true (some 13) (.bin 13 .leq .num (.t 11) (.t 12)),
    .pick 14 (.t 10) (.t 13) (.c (.d (.b false))),
    .kill [2, 10, 11, 12, 13],
    .mv 6 (.t 14),
    .keep [6]])
  (.ret))⟩
/-- live: [0, 1, 5]; objects: [] -/
def sl13Has_l0 : C :=
  .seq (.seq (.r [.mv 6 (.t 5),
      .mv 7 (.t 0),
      .len 8 (.t 7),
      .bin 9 .lss .num (.t 6) (.t 8),
      .kill [6, 7, 8]])
    (.cond (.t 9)
      (.pre [.kill [9]] (.skip))
      (.pre [.keep []] (.ex 0))))
    (.seq (.blk 1 (.seq (.r [.mv 12 (.t 0),
      .mv 13 (.t 5),
      .ia 14 1 (.t 12) (.t 13),
      .ld 15 1 false (.t 14),
      .mv 16 (.t 1),
      .bin 17 .eql .num (.t 15) (.t 16),
      .keep [17, 5, 1, 0]])
    (.cond (.t 17)
      (.pre [.keep []] (.seq (.r [.mv 4 (.c (.d (.b true)))])
      (.ret)))
      (.pre [.kill [17]] (.skip)))))
    (.r [.mv 10 (.t 5),
      .bin 11 .add .num (.t 10) (.c (.d (.i .i64 1))),
      .mv 5 (.t 11),
      .kill [10, 11]]))
def sl13Has_m : Fn := ⟨2, [.t 4], false,
  .seq (.r [.mv 4 (.c (.d (.b false))),
    .kill [4]])
  (.seq (.seq (.r [.mv 5 (.c (.d (.i .i64 0)))])
  (.blk 0 (.pre [.keep [5, 1, 0]] (.loop sl13Has_l0))))
  (.seq (.r [.mv 4 (.c (.d (.b false)))])
  (.ret)))⟩
/-- live: [0, 3]; objects: [] -/
def sTreeOk_l0 : C :=
  .seq (.seq (.r [.mv 5 (.t 3),
      .mv 6 (.t 0),
      .len 7 (.t 6),
      .bin 8 .lss .num (.t 5) (.t 7),
      .kill [5, 6, 7]])
    (.cond (.t 8)
      (.pre [.kill [8]] (.skip))
      (.pre [.keep [0]] (.ex 0))))
    (.seq (.blk 1 (.seq (.r [.mv 11 (.t 0),
      .mv 12 (.t 3),
      .ia 13 5 (.t 11) (.t 12),
      .ld 14 5 true (.t 13),
      .al 4 TRes true,
      .st 5 (.t 4) (.t 14),
      .keep [4, 3, 0]])
    (.seq (.seq (.r [.fa 15 (.t 4) 0,
      .ld 16 1 false (.t 15),
      .len 17 (.t 16),
      .bin 18 .eql .num (.t 17) (.c (.d (.i .i64 0))),
      .mv 19 (.t 18),
      .gd 19 false (some 20) (.fa 20 (.t 4) 0),
      .gd 19 false (some 21) (.ld 21 1 false (.t 20)),
      .kill [15, 16, 17, 18, 20],
      .gd 19 false (some 22) (.call 22 true [] (.c (.clo sPathOk [])) [(.t 21)]),
      .gd 19 false (some 23) (.not 23 (.t 22)),
      .pick 24 (.t 19) (.c (.d (.b true))) (.t 23),
      .mv 25 (.t 24),
      .kill [19, 21, 22, 23, 24],
      .gd 25 false (some 26) (.fa 26 (.t 4) 2),
      .gd 25 false (some 27) (.ld 27 1 false (.t 26)),
      .gd 25 false (some 28) (.lns 28 (.t 27)),
      .gd 25 false (some 29) (.bin 29 .gtr .num (.t 28) (.c (.d (.i .i64 200)))),
      .pick 30 (.t 25) (.c (.d (.b true))) (.t 29),
      .kill [25, 26, 27, 28, 29],
      .mv 31 (.t 30),
      .gd 31 false (some 32) (.fa 32 (.t 4) 1),
      .gd 31 false (some 33) (.ld 33 1 false (.t 32)),
      .gd 31 false (some 34) (.mv 34 (.t 33)),
      .gd 34 true (some 35) (.fa 35 (.t 4) 2),
      .gd 34 true (some 36) (.ld 36 1 false (.t 35)),
      .gd 34 true (some 37) (.bin 37 .neq .num (.t 36) (.c (.d (.s [])))),
      .kill [30, 32, 33, 35, 36],
      .gd 31 false (some 38) (.pick 38 (.t 34) (.t 37) (.c (.d (.b false)))),
      .pick 39 (.t 31) (.c (.d (.b true))) (.t 38),
      .mv 40 (.t 39),
      .kill [31, 34, 37, 38, 39],
      .gd 40 false (some 41) (.fa 41 (.t 4) 3),
      .gd 40 false (some 42) (.ld 42 1 false (.t 41)),
      .gd 40 false (some 43) (.call 43 true [] (.c (.clo sl1In [])) [(.t 42), (.c (.d (.i .i64 0))), (.c (.d (.i .i64 99999)))]),
      .gd 40 false (some 44) (.not 44 (.t 43)),
      .pick 45 (.t 40) (.c (.d (.b true))) (.t 44),
      .kill [40, 41, 42, 43, 44],
      .mv 46 (.t 45),
      .gd 46 false (some 47) (.fa 47 (.t 4) 4),
      .gd 46 false (some 48) (.ld 48 1 false (.t 47)),
      .gd 46 false (some 49) (.call 49 true [] (.c (.clo sPropsOk [])) [(.t 48)]),
      .gd 46 false (some 50) (.not 50 (.t 49)),
      .pick 51 (.t 46) (.c (.d (.b true))) (.t 50),
      .keep [51, 4, 3, 0]])
    (.cond (.t 51)
      (.pre [.keep [], .drop [68]] (.seq (.r [.mv 2 (.c (.d (.b false)))])
      (.ret)))
      (.pre [.kill [51]] (.skip))))
    (.seq (.post (.r [.mv 52 (.t 3),
      .bin 53 .gtr .num (.t 52) (.c (.d (.i .i64 0))),
      .mv 54 (.t 53),
      .gd 54 true (some 55) (.mv 55 (.t 0)),
      .gd 54 true (some 56) (.mv 56 (.t 3)),
      .gd 54 true (some 57) (.bin 57 .sub .num (.t 56) (.c (.d (.i .i64 1)))),
      .gd 54 true (some 58) (.ia 58 5 (.t 55) (.t 57)),
      .gd 54 true (some 59) (.fa 59 (.t 58) 0),
      .gd 54 true (some 60) (.ld 60 1 false (.t 59)),
      .gd 54 true (some 61) (.fa 61 (.t 4) 0),
      .gd 54 true (some 62) (.ld 62 1 false (.t 61)),
      .gd 54 true (some 63) (.call 63 true [] (.c (.clo sLessPath [])) [(.t 60), (.t 62)]),
      .gd 54 true (some 64) (.not 64 (.t 63)),
      .pick 65 (.t 54) (.t 64) (.c (.d (.b false))),
      .mv 66 (.t 65),
      .gd 66 false (some 67) (.mv 67 (.t 0)),
      .gd 66 false (some 68) (.fa 68 (.t 4) 0),
      .gd 66 false (some 69) (.ld 69 1 false (.t 68)),
      .gd 66 false (some 70) (.call 70 true [] (.c (.clo sAbove [])) [(.t 69)]),
      .gd 66 false (some 71) (.call 71 true [] (.c (.clo sIsColl [])) [(.t 67), (.t 70)]),
      .gd 66 false (some 72) (.not 72 (.t 71)),
      .pick 73 (.t 66) (.c (.d (.b true))) (.t 72)]) [.keep [73, 3, 0], .drop [68]])
    (.cond (.t 73)
      (.pre [.keep []] (.seq (.r [.mv 2 (.c (.d (.b false)))])
      (.ret)))
      (.pre [.kill [73]] (.skip)))))))
    (.r [.mv 9 (.t 3),
      .bin 10 .add .num (.t 9) (.c (.d (.i .i64 1))),
      .mv 3 (.t 10),
      .kill [9, 10]]))
def sTreeOk_m : Fn := ⟨1, [.t 2], false,
  .seq (.r [.mv 2 (.c (.d (.b false))),
    .kill [2]])
  (.seq (.seq (.r [.mv 3 (.c (.d (.i .i64 0)))])
  (.blk 0 (.pre [.keep [3, 0]] (.loop sTreeOk_l0))))
  (.seq (.r [.mv 74 (.t 0),
    .len 75 (.t 74),
    .bin 76 .leq .num (.t 75) (.c (.d (.i .i64 12))),
    .mv 2 (.t 76),
    .keep [2]])
  (.ret)))⟩
/-- live: [0, 3, 4]; objects: [] -/
def sLocksOk_l0 : C :=
  .seq (.seq (.r [.mv 17 (.t 4),
        .mv 18 (.t 3),
        .bin 19 .lss .num (.t 17) (.t 18),
        .kill [17, 18]])
      (.cond (.t 19)
        (.pre [.kill [19]] (.skip))
        (.pre [.kill [4, 19]] (.ex 2))))
      (.seq (.blk 3 (.seq (.post (.r [.mv 22 (.t 0),
        .mv 23 (.t 4),
        .ia 24 5 (.t 22) (.t 23),
        .fa 25 (.t 24) 0,
        .ld 26 1 false (.t 25),
        .mv 27 (.t 0),
        .mv 28 (.t 3),
        .ia 29 5 (.t 27) (.t 28),
        .fa 30 (.t 29) 0,
        .ld 31 1 false (.t 30),
        .bin 32 .eql .num (.t 26) (.t 31),
        .mv 33 (.t 32),
        .gd 33 false (some 34) (.mv 34 (.t 0)),
        .gd 33 false (some 35) (.mv 35 (.t 4)),
        .gd 33 false (some 36) (.ia 36 5 (.t 34) (.t 35)),
        .gd 33 false (some 37) (.ld 37 5 true (.t 36)),
        .gd 33 false (some 38) (.mv 38 (.t 0)),
        .gd 33 false (some 39) (.mv 39 (.t 3)),
        .gd 33 false (some 40) (.ia 40 5 (.t 38) (.t 39)),
        .gd 33 false (some 41) (.ld 41 5 true (.t 40)),
        .gd 33 false (some 42) (.call 42 true [] (.c (.clo sLockClash [])) [(.t 37), (.t 41)]),
        .pick 43 (.t 33) (.c (.d (.b true))) (.t 42)]) [.keep [43, 4, 3, 0]])
      (.cond (.t 43)
        (.pre [.keep []] (.seq (.r [.mv 2 (.c (.d (.b false)))])
        (.ret)))
        (.pre [.kill [43]] (.skip)))))
      (.r [.mv 20 (.t 4),
        .bin 21 .add .num (.t 20) (.c (.d (.i .i64 1))),
        .mv 4 (.t 21),
        .kill [20, 21]]))
/-- live: [0, 3]; objects: [] -/
def sLocksOk_l1 : C :=
  .seq (.seq (.r [.mv 5 (.t 3),
      .mv 6 (.t 0),
      .len 7 (.t 6),
      .bin 8 .lss .num (.t 5) (.t 7),
      .kill [5, 6, 7]])
    (.cond (.t 8)
      (.pre [.kill [8]] (.skip))
      (.pre [.keep [0]] (.ex 0))))
    (.seq (.blk 1 (.seq (.seq (.r [.mv 11 (.t 0),
      .mv 12 (.t 3),
      .ia 13 5 (.t 11) (.t 12),
      .ld 14 5 true (.t 13),
      .call 15 true [] (.c (.clo sLockOk [])) [(.t 14)],
      .not 16 (.t 15),
      .keep [16, 3, 0]])
    (.cond (.t 16)
      (.pre [.keep []] (.seq (.r [.mv 2 (.c (.d (.b false)))])
      (.ret)))
      (.pre [.kill [16]] (.skip))))
    (.seq (.r [.mv 4 (.c (.d (.i .i64 0)))])
    (.blk 2 (.pre [.keep [4, 3, 0]] (.loop sLocksOk_l0))))))
    (.r [.mv 9 (.t 3),
      .bin 10 .add .num (.t 9) (.c (.d (.i .i64 1))),
      .mv 3 (.t 10),
      .kill [9, 10]]))
def sLocksOk_m : Fn := ⟨1, [.t 2], false,
  .seq (.r [.mv 2 (.c (.d (.b false))),
    .kill [2]])
  (.seq (.seq (.r [.mv 3 (.c (.d (.i .i64 0)))])
  (.blk 0 (.pre [.keep [3, 0]] (.loop sLocksOk_l1))))
  (.seq (.r [.mv 44 (.t 0),
    .len 45 (.t 44),
    .bin 46 .leq .num (.t 45) (.c (.d (.i .i64 6))),
    .mv 2 (.t 46),
    .keep [2]])
  (.ret)))⟩
def sTagAt_m : Fn := ⟨2, [.t 4, .t 5], false,
  .seq (.r [.bx 2 TSrv true (.t 0),
    .mv 4 (.c (.d (.s []))),
    .mv 5 (.c (.d (.b false))),
    .keep [2, 1]])
  (.seq (.seq (.r [.mv 7 (.t 1),
    .len 8 (.t 7),
    .bin 9 .eql .num (.t 8) (.c (.d (.i .i64 0))),
    .kill [7, 8]])
  (.cond (.t 9)
    (.pre [.keep [], .drop [66]] (.seq (.r [.call 10 true [] (.c (.clo sTagText [])) [(.c (.d (.i .i64 0)))],
      .mv 4 (.t 10),
      .mv 5 (.c (.d (.b true))),
      .kill [10]])
    (.ret)))
    (.pre [.kill [9]] (.skip))))
  (.seq (.r [.fa 11 (.t 2) 0,
    .ld 12 1 false (.t 11),
    .mv 13 (.t 1),
    .call 14 true [] (.c (.clo sFindRes [])) [(.t 12), (.t 13)],
    .mv 6 (.t 14),
    .keep [6, 2]])
  (.seq (.seq (.r [.mv 15 (.t 6),
    .bin 16 .lss .num (.t 15) (.c (.d (.i .i64 0))),
    .kill [15]])
  (.cond (.t 16)
    (.pre [.keep [], .drop [66]] (.seq (.r [.mv 4 (.c (.d (.s []))),
      .mv 5 (.c (.d (.b false)))])
    (.ret)))
    (.pre [.kill [16]] (.skip))))
  (.seq (.r [.fa 17 (.t 2) 0,
    .ld 18 1 false (.t 17),
    .mv 19 (.t 6),
    .ia 20 5 (.t 18) (.t 19),
    .kill [2, 6, 17, 18, 19],
    .fa 21 (.t 20) 3,
    .ld 22 1 false (.t 21),
    .call 23 true [] (.c (.clo sTagText [])) [(.t 22)],
    .mv 4 (.t 23),
    .mv 5 (.c (.d (.b true))),
    .keep [5, 4],
    .drop [66]])
  (.ret)))))⟩
def wtoRes_m : Fn := ⟨1, [.cell 2 5 true], false,
  .seq (.r [.bx 1 TRes true (.t 0),
    .al 2 TRes false,
    .kill [0]])
  (.seq (.r [.al 3 TRes false])
  (.seq (.r [.fa 4 (.t 1) 0,
    .ld 5 1 false (.t 4),
    .call 6 false [] (.c (.clo wtoStringS [])) [(.t 5)],
    .fa 7 (.t 3) 0,
    .st 1 (.t 7) (.t 6),
    .keep [3, 2, 1],
    .drop [7064]])
  (.seq (.r [.fa 8 (.t 1) 1,
    .ld 9 1 false (.t 8),
    .fa 10 (.t 3) 1,
    .st 1 (.t 10) (.t 9),
    .kill [8, 9, 10]])
  (.seq (.r [.fa 11 (.t 1) 2,
    .ld 12 1 false (.t 11),
    .fa 13 (.t 3) 2,
    .st 1 (.t 13) (.t 12),
    .kill [11, 12, 13]])
  (.seq (.r [.fa 14 (.t 1) 3,
    .ld 15 1 false (.t 14),
    .fa 16 (.t 3) 3,
    .st 1 (.t 16) (.t 15),
    .kill [14, 15, 16]])
  (.seq (.r [.fa 17 (.t 1) 4,
    .ld 18 1 false (.t 17),
    .call 19 false [] (.c (.clo wtoPropS [])) [(.t 18)],
    .fa 20 (.t 3) 4,
    .st 1 (.t 20) (.t 19),
    .keep [3, 2],
    .drop [65, 20064]])
  (.seq (.r [.ldt 21 5 true (.t 3),
    .st 5 (.t 2) (.t 21),
    .keep [2],
    .drop [67, 22064, 22068]])
  (.ret))))))))⟩
def wtoLock_m : Fn := ⟨1, [.cell 2 5 true], false,
  .seq (.r [.bx 1 TLock true (.t 0),
    .al 2 TLock false,
    .kill [0]])
  (.seq (.r [.al 3 TLock false])
  (.seq (.r [.fa 4 (.t 1) 0,
    .ld 5 1 false (.t 4),
    .fa 6 (.t 3) 0,
    .st 1 (.t 6) (.t 5),
    .kill [4, 5, 6]])
  (.seq (.r [.fa 7 (.t 1) 1,
    .ld 8 1 false (.t 7),
    .call 9 false [] (.c (.clo wtoStringS [])) [(.t 8)],
    .fa 10 (.t 3) 1,
    .st 1 (.t 10) (.t 9),
    .keep [3, 2, 1],
    .drop [10064]])
  (.seq (.r [.fa 11 (.t 1) 2,
    .ld 12 1 false (.t 11),
    .fa 13 (.t 3) 2,
    .st 1 (.t 13) (.t 12),
    .kill [11, 12, 13]])
  (.seq (.r [.fa 14 (.t 1) 3,
    .ld 15 1 false (.t 14),
    .fa 16 (.t 3) 3,
    .st 1 (.t 16) (.t 15),
    .kill [14, 15, 16]])
  (.seq (.r [.fa 17 (.t 1) 4,
    .ld 18 1 false (.t 17),
    .fa 19 (.t 3) 4,
    .st 1 (.t 19) (.t 18),
    .keep [3, 2],
    .drop [65]])
  (.seq (.r [.ldt 20 5 true (.t 3),
    .st 5 (.t 2) (.t 20),
    .keep [2],
    .drop [67, 21065]])
  (.ret))))))))⟩
/-- live: [0, 5, 6, 7]; objects: [] -/
def iTreeOk_l0 : C :=
  .seq (.r [.bin 8 .lss .num (.t 7) (.t 6)])
    (.seq (.cond (.t 8)
      (.pre [.kill [8]] (.skip))
      (.pre [.keep [0]] (.ex 0)))
    (.seq (.blk 1 (.seq (.r [.mv 9 (.t 7),
      .ia 10 5 (.t 5) (.t 7),
      .ld 11 5 true (.t 10),
      .al 4 TRes true,
      .mv 3 (.t 9),
      .st 5 (.t 4) (.t 11),
      .kill [9, 10, 11]])
    (.seq (.post (.r [.ld 12 5 true (.t 4),
      .call 13 true [] (.c (.clo iresOk [])) [(.t 12)],
      .not 14 (.t 13),
      .mv 15 (.t 14),
      .gd 15 false (some 16) (.mv 16 (.t 3)),
      .gd 15 false (some 17) (.bin 17 .gtr .num (.t 16) (.c (.d (.i .i64 0)))),
      .gd 15 false (some 18) (.mv 18 (.t 17)),
      .gd 18 true (some 19) (.mv 19 (.t 0)),
      .gd 18 true (some 20) (.mv 20 (.t 3)),
      .gd 18 true (some 21) (.bin 21 .sub .num (.t 20) (.c (.d (.i .i64 1)))),
      .gd 18 true (some 22) (.ia 22 5 (.t 19) (.t 21)),
      .gd 18 true (some 23) (.fa 23 (.t 22) 0),
      .gd 18 true (some 24) (.ld 24 1 false (.t 23)),
      .gd 18 true (some 25) (.fa 25 (.t 4) 0),
      .gd 18 true (some 26) (.ld 26 1 false (.t 25)),
      .gd 18 true (some 27) (.call 27 true [] (.c (.clo iLessPath [])) [(.t 24), (.t 26)]),
      .gd 18 true (some 28) (.not 28 (.t 27)),
      .gd 15 false (some 29) (.pick 29 (.t 18) (.t 28) (.c (.d (.b false)))),
      .pick 30 (.t 15) (.c (.d (.b true))) (.t 29),
      .mv 31 (.t 30),
      .gd 31 false (some 32) (.mv 32 (.t 0)),
      .gd 31 false (some 33) (.fa 33 (.t 4) 0),
      .gd 31 false (some 34) (.ld 34 1 false (.t 33)),
      .gd 31 false (some 35) (.call 35 true [] (.c (.clo iAbove [])) [(.t 34)]),
      .gd 31 false (some 36) (.call 36 true [] (.c (.clo iIsColl [])) [(.t 32), (.t 35)]),
      .gd 31 false (some 37) (.not 37 (.t 36)),
      .pick 38 (.t 31) (.c (.d (.b true))) (.t 37)]) [.keep [38, 7, 6, 5, 0], .drop [68]])
    (.cond (.t 38)
      (.pre [.keep []] (.seq (.r [.mv 2 (.c (.d (.b false)))])
      (.ret)))
      (.pre [.kill [38]] (.skip))))))
    (.r [.bin 39 .add .num (.t 7) (.c (.d (.i .i64 1))),
      .mv 7 (.t 39),
      .kill [39]])))
def iTreeOk_m : Fn := ⟨1, [.t 2], false,
  .seq (.r [.mv 2 (.c (.d (.b false))),
    .kill [2]])
  (.seq (.seq (.r [.mv 5 (.t 0),
    .len 6 (.t 5),
    .mv 7 (.c (.d (.i .i64 0)))])
  (.blk 0 (.pre [.keep [7, 6, 5, 0]] (.loop iTreeOk_l0))))
  (.seq (.r [.mv 40 (.t 0),
    .len 41 (.t 40),
    .bin 42 .leq .num (.t 41) (.c (.d (.i .i64 12))),
    .mv 2 (.t 42),
    .keep [2]])
  (.ret)))⟩
/-- live: [0, 4, 7, 8, 9, 19, 20, 21]; objects: [68] -/
def iLocksOk_l0 : C :=
  .seq (.r [.bin 22 .lss .num (.t 21) (.t 20)])
      (.seq (.cond (.t 22)
        (.pre [.kill [22]] (.skip))
        (.pre [.keep [9, 8, 7, 0], .drop [68]] (.ex 2)))
      (.seq (.blk 3 (.seq (.r [.ia 23 5 (.t 19) (.t 21),
        .ld 24 5 true (.t 23),
        .al 6 TLock true,
        .st 5 (.t 6) (.t 24),
        .kill [23, 24]])
      (.seq (.r [.fa 25 (.t 4) 0,
        .ld 26 1 false (.t 25),
        .fa 27 (.t 6) 0,
        .ld 28 1 false (.t 27),
        .bin 29 .eql .num (.t 26) (.t 28),
        .mv 30 (.t 29),
        .kill [25, 26, 27, 28, 29],
        .gd 30 false (some 31) (.ld 31 5 true (.t 4)),
        .gd 30 false (some 32) (.ld 32 5 true (.t 6)),
        .gd 30 false (some 33) (.call 33 true [] (.c (.clo iLockClash [])) [(.t 31), (.t 32)]),
        .pick 34 (.t 30) (.c (.d (.b true))) (.t 33),
        .keep [34, 21, 20, 19, 9, 8, 7, 4, 0],
        .drop [70]])
      (.cond (.t 34)
        (.pre [.keep [], .drop [68]] (.seq (.r [.mv 2 (.c (.d (.b false)))])
        (.ret)))
        (.pre [.kill [34]] (.skip))))))
      (.r [.bin 35 .add .num (.t 21) (.c (.d (.i .i64 1))),
        .mv 21 (.t 35),
        .kill [35]])))
/-- live: [0, 7, 8, 9]; objects: [] -/
def iLocksOk_l1 : C :=
  .seq (.r [.bin 10 .lss .num (.t 9) (.t 8)])
    (.seq (.cond (.t 10)
      (.pre [.kill [10]] (.skip))
      (.pre [.keep [0]] (.ex 0)))
    (.seq (.blk 1 (.seq (.r [.mv 11 (.t 9),
      .ia 12 5 (.t 7) (.t 9),
      .ld 13 5 true (.t 12),
      .al 4 TLock true,
      .mv 3 (.t 11),
      .st 5 (.t 4) (.t 13),
      .kill [11, 12, 13]])
    (.seq (.seq (.r [.ld 14 5 true (.t 4),
      .call 15 true [] (.c (.clo iLockOk [])) [(.t 14)],
      .not 16 (.t 15),
      .kill [14, 15]])
    (.cond (.t 16)
      (.pre [.keep [], .drop [68]] (.seq (.r [.mv 2 (.c (.d (.b false)))])
      (.ret)))
      (.pre [.kill [16]] (.skip))))
    (.seq (.r [.mv 17 (.t 0),
      .mv 18 (.t 3),
      .slc 19 5 (.t 17) none (some (.t 18)),
      .len 20 (.t 19),
      .mv 21 (.c (.d (.i .i64 0))),
      .kill [3, 17, 18]])
    (.blk 2 (.pre [.keep [21, 20, 19, 9, 8, 7, 4, 0]] (.loop iLocksOk_l0)))))))
    (.r [.bin 36 .add .num (.t 9) (.c (.d (.i .i64 1))),
      .mv 9 (.t 36),
      .kill [36]])))
def iLocksOk_m : Fn := ⟨1, [.t 2], false,
  .seq (.r [.mv 2 (.c (.d (.b false))),
    .kill [2]])
  (.seq (.seq (.r [.mv 7 (.t 0),
    .len 8 (.t 7),
    .mv 9 (.c (.d (.i .i64 0)))])
  (.blk 0 (.pre [.keep [9, 8, 7, 0]] (.loop iLocksOk_l1))))
  (.seq (.r [.mv 37 (.t 0),
    .len 38 (.t 37),
    .bin 39 .leq .num (.t 38) (.c (.d (.i .i64 6))),
    .mv 2 (.t 39),
    .keep [2]])
  (.ret)))⟩
def iin_m : Fn := ⟨3, [.t 6], false,
  .seq (.r [.mv 6 (.c (.d (.b false))),
    .kill [6]])
  (.seq (.r [.mv 7 (.t 0),
    .mv 8 (.t 1),
    .bin 9 .geq .num (.t 7) (.t 8),
    .mv 10 (.t 9),
    .gd 10 true (some 11) (.mv 11 (.t 0)),
    .kill [0, 1, 7, 8, 9],
    .gd 10 true (some 12) (.mv 12 (.t 2)),
    .gd 10 true (some 13) (.bin 13 .leq .num (.t 11) (.t 12)),
    .pick 14 (.t 10) (.t 13) (.c (.d (.b false))),
    .kill [2, 10, 11, 12, 13],
    .mv 6 (.t 14),
    .keep [6]])
  (.ret))⟩
/-- live: [0, 5, 6, 7]; objects: [] -/
def iusedOk_l0 : C :=
  .seq (.r [.bin 8 .lss .num (.t 7) (.t 6)])
    (.seq (.cond (.t 8)
      (.pre [.kill [8]] (.skip))
      (.pre [.keep []] (.ex 0)))
    (.seq (.blk 1 (.seq (.r [.mv 9 (.t 7),
      .ia 10 1 (.t 5) (.t 7),
      .ld 11 1 false (.t 10),
      .mv 3 (.t 9),
      .mv 4 (.t 11),
      .kill [9, 10, 11]])
    (.seq (.r [.mv 12 (.t 4),
      .call 13 true [] (.c (.clo iin [])) [(.t 12), (.c (.d (.i .i64 1))), (.c (.d (.i .i64 9999)))],
      .not 14 (.t 13),
      .mv 15 (.t 14),
      .gd 15 false (some 16) (.mv 16 (.t 3)),
      .gd 15 false (some 17) (.bin 17 .gtr .num (.t 16) (.c (.d (.i .i64 0)))),
      .gd 15 false (some 18) (.mv 18 (.t 17)),
      .kill [12, 13, 14, 16, 17],
      .gd 18 true (some 19) (.mv 19 (.t 0)),
      .gd 18 true (some 20) (.mv 20 (.t 3)),
      .gd 18 true (some 21) (.bin 21 .sub .num (.t 20) (.c (.d (.i .i64 1)))),
      .gd 18 true (some 22) (.ia 22 1 (.t 19) (.t 21)),
      .gd 18 true (some 23) (.ld 23 1 false (.t 22)),
      .kill [3, 19, 20, 21, 22],
      .gd 18 true (some 24) (.mv 24 (.t 4)),
      .gd 18 true (some 25) (.bin 25 .geq .num (.t 23) (.t 24)),
      .gd 15 false (some 26) (.pick 26 (.t 18) (.t 25) (.c (.d (.b false)))),
      .kill [4, 18, 23, 24, 25],
      .pick 27 (.t 15) (.c (.d (.b true))) (.t 26),
      .keep [27, 7, 6, 5, 0]])
    (.cond (.t 27)
      (.pre [.keep []] (.seq (.r [.mv 2 (.c (.d (.b false)))])
      (.ret)))
      (.pre [.kill [27]] (.skip))))))
    (.r [.bin 28 .add .num (.t 7) (.c (.d (.i .i64 1))),
      .mv 7 (.t 28),
      .kill [28]])))
def iusedOk_m : Fn := ⟨1, [.t 2], false,
  .seq (.r [.mv 2 (.c (.d (.b false))),
    .kill [2]])
  (.seq (.seq (.r [.mv 5 (.t 0),
    .len 6 (.t 5),
    .mv 7 (.c (.d (.i .i64 0)))])
  (.blk 0 (.pre [.keep [7, 6, 5, 0]] (.loop iusedOk_l0))))
  (.seq (.r [.mv 2 (.c (.d (.b true)))])
  (.ret)))⟩
/-- live: [1, 7, 8, 9]; objects: [] -/
def ihasInt_l0 : C :=
  .seq (.r [.bin 10 .lss .num (.t 9) (.t 8)])
    (.seq (.cond (.t 10)
      (.pre [.kill [10]] (.skip))
      (.pre [.keep []] (.ex 0)))
    (.seq (.blk 1 (.seq (.r [.ia 11 1 (.t 7) (.t 9),
      .ld 12 1 false (.t 11),
      .mv 6 (.t 12),
      .kill [11, 12]])
    (.seq (.r [.mv 13 (.t 6),
      .mv 14 (.t 1),
      .bin 15 .eql .num (.t 13) (.t 14),
      .kill [6, 13, 14]])
    (.cond (.t 15)
      (.pre [.keep []] (.seq (.r [.mv 4 (.c (.d (.b true)))])
      (.ret)))
      (.pre [.kill [15]] (.skip))))))
    (.r [.bin 16 .add .num (.t 9) (.c (.d (.i .i64 1))),
      .mv 9 (.t 16),
      .kill [16]])))
def ihasInt_m : Fn := ⟨2, [.t 4], false,
  .seq (.r [.mv 4 (.c (.d (.b false))),
    .kill [4]])
  (.seq (.seq (.r [.mv 7 (.t 0),
    .len 8 (.t 7),
    .mv 9 (.c (.d (.i .i64 0))),
    .kill [0]])
  (.blk 0 (.pre [.keep [9, 8, 7, 1]] (.loop ihasInt_l0))))
  (.seq (.r [.mv 4 (.c (.d (.b false)))])
  (.ret)))⟩
def iTagAt_m : Fn := ⟨2, [.t 4, .t 5], false,
  .seq (.r [.bx 2 TSrv true (.t 0),
    .mv 4 (.c (.d (.s []))),
    .mv 5 (.c (.d (.b false))),
    .keep [2, 1]])
  (.seq (.seq (.r [.mv 7 (.t 1),
    .len 8 (.t 7),
    .bin 9 .eql .num (.t 8) (.c (.d (.i .i64 0))),
    .kill [7, 8]])
  (.cond (.t 9)
    (.pre [.keep [], .drop [66]] (.seq (.r [.call 10 true [] (.c (.clo iTagText [])) [(.c (.d (.i .i64 0)))],
      .mv 4 (.t 10),
      .mv 5 (.c (.d (.b true))),
      .kill [10]])
    (.ret)))
    (.pre [.kill [9]] (.skip))))
  (.seq (.r [.fa 11 (.t 2) 0,
    .ld 12 1 false (.t 11),
    .mv 13 (.t 1),
    .call 14 true [] (.c (.clo iFindRes [])) [(.t 12), (.t 13)],
    .mv 6 (.t 14),
    .keep [6, 2]])
  (.seq (.seq (.r [.mv 15 (.t 6),
    .bin 16 .lss .num (.t 15) (.c (.d (.i .i64 0))),
    .kill [15]])
  (.cond (.t 16)
    (.pre [.keep [], .drop [66]] (.seq (.r [.mv 4 (.c (.d (.s []))),
      .mv 5 (.c (.d (.b false)))])
    (.ret)))
    (.pre [.kill [16]] (.skip))))
  (.seq (.r [.fa 17 (.t 2) 0,
    .ld 18 1 false (.t 17),
    .mv 19 (.t 6),
    .ia 20 5 (.t 18) (.t 19),
    .kill [2, 6, 17, 18, 19],
    .fa 21 (.t 20) 3,
    .ld 22 1 false (.t 21),
    .call 23 true [] (.c (.clo iTagText [])) [(.t 22)],
    .mv 4 (.t 23),
    .mv 5 (.c (.d (.b true))),
    .keep [5, 4],
    .drop [66]])
  (.ret)))))⟩
def weqRes_m : Fn := ⟨2, [.t 4], false,
  .seq (.r [.bx 2 TRes true (.t 0),
    .bx 3 TRes true (.t 1),
    .mv 4 (.c (.d (.b false))),
    .keep [3, 2]])
  (.seq (.seq (.r [.fa 5 (.t 2) 0,
    .ld 6 1 false (.t 5),
    .fa 7 (.t 3) 0,
    .ld 8 1 false (.t 7),
    .call 9 true [] (.c (.clo weqStringS [])) [(.t 6), (.t 8)],
    .not 10 (.t 9),
    .keep [10, 3, 2]])
  (.cond (.t 10)
    (.pre [.keep [], .drop [66, 67]] (.seq (.r [.mv 4 (.c (.d (.b false)))])
    (.ret)))
    (.pre [.kill [10]] (.skip))))
  (.seq (.seq (.r [.fa 11 (.t 2) 1,
    .ld 12 1 false (.t 11),
    .fa 13 (.t 3) 1,
    .ld 14 1 false (.t 13),
    .bin 15 .neq .flag (.t 12) (.t 14),
    .keep [15, 3, 2]])
  (.cond (.t 15)
    (.pre [.keep [], .drop [66, 67]] (.seq (.r [.mv 4 (.c (.d (.b false)))])
    (.ret)))
    (.pre [.kill [15]] (.skip))))
  (.seq (.seq (.r [.fa 16 (.t 2) 2,
    .ld 17 1 false (.t 16),
    .fa 18 (.t 3) 2,
    .ld 19 1 false (.t 18),
    .bin 20 .neq .num (.t 17) (.t 19),
    .keep [20, 3, 2]])
  (.cond (.t 20)
    (.pre [.keep [], .drop [66, 67]] (.seq (.r [.mv 4 (.c (.d (.b false)))])
    (.ret)))
    (.pre [.kill [20]] (.skip))))
  (.seq (.seq (.r [.fa 21 (.t 2) 3,
    .ld 22 1 false (.t 21),
    .fa 23 (.t 3) 3,
    .ld 24 1 false (.t 23),
    .bin 25 .neq .num (.t 22) (.t 24),
    .keep [25, 3, 2]])
  (.cond (.t 25)
    (.pre [.keep [], .drop [66, 67]] (.seq (.r [.mv 4 (.c (.d (.b false)))])
    (.ret)))
    (.pre [.kill [25]] (.skip))))
  (.seq (.seq (.r [.fa 26 (.t 2) 4,
    .ld 27 1 false (.t 26),
    .fa 28 (.t 3) 4,
    .ld 29 1 false (.t 28),
    .call 30 true [] (.c (.clo weqPropS [])) [(.t 27), (.t 29)],
    .kill [2, 3, 26, 27, 28, 29],
    .not 31 (.t 30),
    .keep [31],
    .drop [66, 67]])
  (.cond (.t 31)
    (.pre [.keep []] (.seq (.r [.mv 4 (.c (.d (.b false)))])
    (.ret)))
    (.pre [.keep []] (.skip))))
  (.seq (.r [.mv 4 (.c (.d (.b true)))])
  (.ret)))))))⟩
def weqLock_m : Fn := ⟨2, [.t 4], false,
  .seq (.r [.bx 2 TLock true (.t 0),
    .bx 3 TLock true (.t 1),
    .mv 4 (.c (.d (.b false))),
    .keep [3, 2]])
  (.seq (.seq (.r [.fa 5 (.t 2) 0,
    .ld 6 1 false (.t 5),
    .fa 7 (.t 3) 0,
    .ld 8 1 false (.t 7),
    .bin 9 .neq .num (.t 6) (.t 8),
    .keep [9, 3, 2]])
  (.cond (.t 9)
    (.pre [.keep [], .drop [66, 67]] (.seq (.r [.mv 4 (.c (.d (.b false)))])
    (.ret)))
    (.pre [.kill [9]] (.skip))))
  (.seq (.seq (.r [.fa 10 (.t 2) 1,
    .ld 11 1 false (.t 10),
    .fa 12 (.t 3) 1,
    .ld 13 1 false (.t 12),
    .call 14 true [] (.c (.clo weqStringS [])) [(.t 11), (.t 13)],
    .not 15 (.t 14),
    .keep [15, 3, 2]])
  (.cond (.t 15)
    (.pre [.keep [], .drop [66, 67]] (.seq (.r [.mv 4 (.c (.d (.b false)))])
    (.ret)))
    (.pre [.kill [15]] (.skip))))
  (.seq (.seq (.r [.fa 16 (.t 2) 2,
    .ld 17 1 false (.t 16),
    .fa 18 (.t 3) 2,
    .ld 19 1 false (.t 18),
    .bin 20 .neq .flag (.t 17) (.t 19),
    .keep [20, 3, 2]])
  (.cond (.t 20)
    (.pre [.keep [], .drop [66, 67]] (.seq (.r [.mv 4 (.c (.d (.b false)))])
    (.ret)))
    (.pre [.kill [20]] (.skip))))
  (.seq (.seq (.r [.fa 21 (.t 2) 3,
    .ld 22 1 false (.t 21),
    .fa 23 (.t 3) 3,
    .ld 24 1 false (.t 23),
    .bin 25 .neq .flag (.t 22) (.t 24),
    .keep [25, 3, 2]])
  (.cond (.t 25)
    (.pre [.keep [], .drop [66, 67]] (.seq (.r [.mv 4 (.c (.d (.b false)))])
    (.ret)))
    (.pre [.kill [25]] (.skip))))
  (.seq (.seq (.r [.fa 26 (.t 2) 4,
    .ld 27 1 false (.t 26),
    .fa 28 (.t 3) 4,
    .ld 29 1 false (.t 28),
    .bin 30 .neq .num (.t 27) (.t 29),
    .keep [30],
    .drop [66, 67]])
  (.cond (.t 30)
    (.pre [.keep []] (.seq (.r [.mv 4 (.c (.d (.b false)))])
    (.ret)))
    (.pre [.keep []] (.skip))))
  (.seq (.r [.mv 4 (.c (.d (.b true)))])
  (.ret)))))))⟩
/-- live: [0, 1, 5]; objects: [] -/
def wszStringS_l0 : C :=
  .seq (.seq (.r [.mv 12 (.t 5),
      .mv 13 (.t 0),
      .len 14 (.t 13),
      .bin 15 .lss .num (.t 12) (.t 14),
      .kill [12, 13, 14]])
    (.cond (.t 15)
      (.pre [.kill [15]] (.skip))
      (.pre [.keep [1]] (.ex 0))))
    (.seq (.blk 1 (.seq (.r [.mv 18 (.t 1),
      .mv 19 (.t 0),
      .mv 20 (.t 5),
      .ia 21 1 (.t 19) (.t 20),
      .ld 22 1 false (.t 21),
      .lns 23 (.t 22),
      .kill [1, 19, 20, 21, 22],
      .bin 24 .sub .num (.t 18) (.t 23),
      .mv 1 (.t 24),
      .keep [5, 1, 0]])
    (.seq (.r [.mv 25 (.t 1),
      .bin 26 .lss .num (.t 25) (.c (.d (.i .i64 0))),
      .kill [25]])
    (.cond (.t 26)
      (.pre [.keep []] (.seq (.r [.mv 4 (.c (.d (.i .i64 (-1))))])
      (.ret)))
      (.pre [.kill [26]] (.skip))))))
    (.r [.mv 16 (.t 5),
      .bin 17 .add .num (.t 16) (.c (.d (.i .i64 1))),
      .mv 5 (.t 17),
      .kill [16, 17]]))
def wszStringS_m : Fn := ⟨2, [.t 4], false,
  .seq (.r [.mv 4 (.c (.d (.i .i64 0))),
    .kill [4]])
  (.seq (.r [.mv 6 (.t 1),
    .mv 7 (.t 0),
    .len 8 (.t 7),
    .bin 9 .sub .num (.t 6) (.t 8),
    .mv 1 (.t 9),
    .keep [1, 0]])
  (.seq (.seq (.r [.mv 10 (.t 1),
    .bin 11 .lss .num (.t 10) (.c (.d (.i .i64 0))),
    .kill [10]])
  (.cond (.t 11)
    (.pre [.keep []] (.seq (.r [.mv 4 (.c (.d (.i .i64 (-1))))])
    (.ret)))
    (.pre [.kill [11]] (.skip))))
  (.seq (.seq (.r [.mv 5 (.c (.d (.i .i64 0)))])
  (.blk 0 (.pre [.keep [5, 1, 0]] (.loop wszStringS_l0))))
  (.seq (.r [.mv 27 (.t 1),
    .mv 4 (.t 27),
    .keep [4]])
  (.ret)))))⟩
/-- live: [0, 1, 5]; objects: [] -/
def wszPropS_l0 : C :=
  .seq (.seq (.r [.mv 12 (.t 5),
      .mv 13 (.t 0),
      .len 14 (.t 13),
      .bin 15 .lss .num (.t 12) (.t 14),
      .kill [12, 13, 14]])
    (.cond (.t 15)
      (.pre [.kill [15]] (.skip))
      (.pre [.keep [1]] (.ex 0))))
    (.seq (.blk 1 (.seq (.r [.mv 18 (.t 0),
      .mv 19 (.t 5),
      .ia 20 3 (.t 18) (.t 19),
      .ld 21 3 true (.t 20),
      .mv 22 (.t 1),
      .call 23 true [] (.c (.clo wszProp [])) [(.t 21), (.t 22)],
      .kill [1, 18, 19, 20, 21, 22],
      .mv 1 (.t 23),
      .keep [5, 1, 0]])
    (.seq (.r [.mv 24 (.t 1),
      .bin 25 .lss .num (.t 24) (.c (.d (.i .i64 0))),
      .kill [24]])
    (.cond (.t 25)
      (.pre [.keep []] (.seq (.r [.mv 4 (.c (.d (.i .i64 (-1))))])
      (.ret)))
      (.pre [.kill [25]] (.skip))))))
    (.r [.mv 16 (.t 5),
      .bin 17 .add .num (.t 16) (.c (.d (.i .i64 1))),
      .mv 5 (.t 17),
      .kill [16, 17]]))
def wszPropS_m : Fn := ⟨2, [.t 4], false,
  .seq (.r [.mv 4 (.c (.d (.i .i64 0))),
    .kill [4]])
  (.seq (.r [.mv 6 (.t 1),
    .mv 7 (.t 0),
    .len 8 (.t 7),
    .bin 9 .sub .num (.t 6) (.t 8),
    .mv 1 (.t 9),
    .keep [1, 0]])
  (.seq (.seq (.r [.mv 10 (.t 1),
    .bin 11 .lss .num (.t 10) (.c (.d (.i .i64 0))),
    .kill [10]])
  (.cond (.t 11)
    (.pre [.keep []] (.seq (.r [.mv 4 (.c (.d (.i .i64 (-1))))])
    (.ret)))
    (.pre [.kill [11]] (.skip))))
  (.seq (.seq (.r [.mv 5 (.c (.d (.i .i64 0)))])
  (.blk 0 (.pre [.keep [5, 1, 0]] (.loop wszPropS_l0))))
  (.seq (.r [.mv 26 (.t 1),
    .mv 4 (.t 26),
    .keep [4]])
  (.ret)))))⟩
/-- live: [0, 3]; objects: [] -/
def sPathOk_l0 : C :=
  .seq (.seq (.r [.mv 4 (.t 3),
      .mv 5 (.t 0),
      .len 6 (.t 5),
      .bin 7 .lss .num (.t 4) (.t 6),
      .kill [4, 5, 6]])
    (.cond (.t 7)
      (.pre [.kill [7]] (.skip))
      (.pre [.keep [0]] (.ex 0))))
    (.seq (.blk 1 (.seq (.r [.mv 10 (.t 0),
      .mv 11 (.t 3),
      .ia 12 1 (.t 10) (.t 11),
      .ld 13 1 false (.t 12),
      .call 14 true [] (.c (.clo sNameOk [])) [(.t 13)],
      .not 15 (.t 14),
      .keep [15, 3, 0]])
    (.cond (.t 15)
      (.pre [.keep []] (.seq (.r [.mv 2 (.c (.d (.b false)))])
      (.ret)))
      (.pre [.kill [15]] (.skip)))))
    (.r [.mv 8 (.t 3),
      .bin 9 .add .num (.t 8) (.c (.d (.i .i64 1))),
      .mv 3 (.t 9),
      .kill [8, 9]]))
def sPathOk_m : Fn := ⟨1, [.t 2], false,
  .seq (.r [.mv 2 (.c (.d (.b false))),
    .kill [2]])
  (.seq (.seq (.r [.mv 3 (.c (.d (.i .i64 0)))])
  (.blk 0 (.pre [.keep [3, 0]] (.loop sPathOk_l0))))
  (.seq (.r [.mv 16 (.t 0),
    .len 17 (.t 16),
    .bin 18 .leq .num (.t 17) (.c (.d (.i .i64 4))),
    .mv 2 (.t 18),
    .keep [2]])
  (.ret)))⟩
/-- live: [0, 3]; objects: [] -/
def sPropsOk_l0 : C :=
  .seq (.seq (.r [.mv 4 (.t 3),
      .mv 5 (.t 0),
      .len 6 (.t 5),
      .bin 7 .lss .num (.t 4) (.t 6),
      .kill [4, 5, 6]])
    (.cond (.t 7)
      (.pre [.kill [7]] (.skip))
      (.pre [.keep [0]] (.ex 0))))
    (.seq (.blk 1 (.seq (.post (.r [.mv 10 (.t 0),
      .mv 11 (.t 3),
      .ia 12 3 (.t 10) (.t 11),
      .ld 13 3 true (.t 12),
      .call 14 true [] (.c (.clo sl10Prop [])) [(.t 13)],
      .not 15 (.t 14),
      .mv 16 (.t 15),
      .gd 16 false (some 17) (.mv 17 (.t 3)),
      .gd 16 false (some 18) (.bin 18 .gtr .num (.t 17) (.c (.d (.i .i64 0)))),
      .gd 16 false (some 19) (.mv 19 (.t 18)),
      .gd 19 true (some 20) (.mv 20 (.t 0)),
      .gd 19 true (some 21) (.mv 21 (.t 3)),
      .gd 19 true (some 22) (.bin 22 .sub .num (.t 21) (.c (.d (.i .i64 1)))),
      .gd 19 true (some 23) (.ia 23 3 (.t 20) (.t 22)),
      .gd 19 true (some 24) (.ld 24 3 true (.t 23)),
      .gd 19 true (some 25) (.mv 25 (.t 0)),
      .gd 19 true (some 26) (.mv 26 (.t 3)),
      .gd 19 true (some 27) (.ia 27 3 (.t 25) (.t 26)),
      .gd 19 true (some 28) (.ld 28 3 true (.t 27)),
      .gd 19 true (some 29) (.call 29 true [] (.c (.clo sl10LessProp [])) [(.t 24), (.t 28)]),
      .gd 19 true (some 30) (.not 30 (.t 29)),
      .gd 16 false (some 31) (.pick 31 (.t 19) (.t 30) (.c (.d (.b false)))),
      .pick 32 (.t 16) (.c (.d (.b true))) (.t 31)]) [.keep [32, 3, 0]])
    (.cond (.t 32)
      (.pre [.keep []] (.seq (.r [.mv 2 (.c (.d (.b false)))])
      (.ret)))
      (.pre [.kill [32]] (.skip)))))
    (.r [.mv 8 (.t 3),
      .bin 9 .add .num (.t 8) (.c (.d (.i .i64 1))),
      .mv 3 (.t 9),
      .kill [8, 9]]))
def sPropsOk_m : Fn := ⟨1, [.t 2], false,
  .seq (.r [.mv 2 (.c (.d (.b false))),
    .kill [2]])
  (.seq (.seq (.r [.mv 3 (.c (.d (.i .i64 0)))])
  (.blk 0 (.pre [.keep [3, 0]] (.loop sPropsOk_l0))))
  (.seq (.r [.mv 33 (.t 0),
    .len 34 (.t 33),
    .bin 35 .leq .num (.t 34) (.c (.d (.i .i64 4))),
    .mv 2 (.t 35),
    .keep [2]])
  (.ret)))⟩
/-- live: [0, 1, 5]; objects: [] -/
def sLessPath_l0 : C :=
  .seq (.seq (.r [.mv 6 (.t 5),
      .mv 7 (.t 0),
      .len 8 (.t 7),
      .bin 9 .lss .num (.t 6) (.t 8),
      .mv 10 (.t 9),
      .gd 10 true (some 11) (.mv 11 (.t 5)),
      .gd 10 true (some 12) (.mv 12 (.t 1)),
      .gd 10 true (some 13) (.len 13 (.t 12)),
      .kill [6, 7, 8, 9, 12],
      .gd 10 true (some 14) (.bin 14 .lss .num (.t 11) (.t 13)),
      .pick 15 (.t 10) (.t 14) (.c (.d (.b false))),
      .keep [15, 5, 1, 0]])
    (.cond (.t 15)
      (.pre [.kill [15]] (.skip))
      (.pre [.kill [5, 15]] (.ex 0))))
    (.seq (.blk 1 (.seq (.post (.r [.mv 18 (.t 0),
      .mv 19 (.t 5),
      .ia 20 1 (.t 18) (.t 19),
      .ld 21 1 false (.t 20),
      .mv 22 (.t 1),
      .mv 23 (.t 5),
      .ia 24 1 (.t 22) (.t 23),
      .ld 25 1 false (.t 24),
      .bin 26 .neq .num (.t 21) (.t 25)]) [.keep [26, 5, 1, 0]])
    (.cond (.t 26)
      (.pre [.kill [26]] (.seq (.post (.r [.mv 27 (.t 0),
        .mv 28 (.t 5),
        .ia 29 1 (.t 27) (.t 28),
        .ld 30 1 false (.t 29),
        .mv 31 (.t 1),
        .mv 32 (.t 5),
        .ia 33 1 (.t 31) (.t 32),
        .ld 34 1 false (.t 33),
        .bin 35 .lss .num (.t 30) (.t 34),
        .mv 4 (.t 35)]) [.keep [4]])
      (.ret)))
      (.pre [.kill [26]] (.skip)))))
    (.r [.mv 16 (.t 5),
      .bin 17 .add .num (.t 16) (.c (.d (.i .i64 1))),
      .mv 5 (.t 17),
      .kill [16, 17]]))
def sLessPath_m : Fn := ⟨2, [.t 4], false,
  .seq (.r [.mv 4 (.c (.d (.b false))),
    .kill [4]])
  (.seq (.seq (.r [.mv 5 (.c (.d (.i .i64 0)))])
  (.blk 0 (.pre [.keep [5, 1, 0]] (.loop sLessPath_l0))))
  (.seq (.r [.mv 36 (.t 0),
    .len 37 (.t 36),
    .mv 38 (.t 1),
    .len 39 (.t 38),
    .bin 40 .lss .num (.t 37) (.t 39),
    .kill [0, 1, 36, 37, 38, 39],
    .mv 4 (.t 40),
    .keep [4]])
  (.ret)))⟩
def sIsColl_m : Fn := ⟨2, [.t 4], false,
  .seq (.r [.mv 4 (.c (.d (.b false))),
    .kill [4]])
  (.seq (.r [.mv 6 (.t 0),
    .mv 7 (.t 1),
    .call 8 true [] (.c (.clo sFindRes [])) [(.t 6), (.t 7)],
    .mv 5 (.t 8),
    .kill [6, 7, 8]])
  (.seq (.r [.mv 9 (.t 1),
    .len 10 (.t 9),
    .bin 11 .eql .num (.t 10) (.c (.d (.i .i64 0))),
    .mv 12 (.t 11),
    .gd 12 false (some 13) (.mv 13 (.t 5)),
    .gd 12 false (some 14) (.bin 14 .geq .num (.t 13) (.c (.d (.i .i64 0)))),
    .kill [1, 9, 10, 11, 13],
    .gd 12 false (some 15) (.mv 15 (.t 14)),
    .gd 15 true (some 16) (.mv 16 (.t 0)),
    .gd 15 true (some 17) (.mv 17 (.t 5)),
    .gd 15 true (some 18) (.ia 18 5 (.t 16) (.t 17)),
    .kill [0, 5, 14, 16, 17],
    .gd 15 true (some 19) (.fa 19 (.t 18) 1),
    .gd 15 true (some 20) (.ld 20 1 false (.t 19)),
    .gd 12 false (some 21) (.pick 21 (.t 15) (.t 20) (.c (.d (.b false)))),
    .pick 22 (.t 12) (.c (.d (.b true))) (.t 21),
    .kill [12, 15, 18, 19, 20, 21],
    .mv 4 (.t 22),
    .keep [4]])
  (.ret)))⟩
def sAbove_m : Fn := ⟨1, [.t 2], false,
  .seq (.r [.mv 2 (.c (.nil .str)),
    .opn 2 2 false,
    .kill [2],
    .drop [66]])
  (.seq (.seq (.r [.mv 3 (.t 0),
    .len 4 (.t 3),
    .bin 5 .eql .num (.t 4) (.c (.d (.i .i64 0))),
    .kill [3, 4]])
  (.cond (.t 5)
    (.pre [.keep []] (.seq (.r [.bs 6 .str false 0 [.d (.s [])] [],
      .mv 2 (.t 6),
      .ren 70 66,
      .kill [6],
      .drop [70]])
    (.ret)))
    (.pre [.kill [5]] (.skip))))
  (.seq (.r [.bs 7 .str false 0 [.d (.s [])] [],
    .mv 8 (.t 0),
    .mv 9 (.t 0),
    .len 10 (.t 9),
    .bin 11 .sub .num (.t 10) (.c (.d (.i .i64 1))),
    .slc 12 1 (.t 8) none (some (.t 11)),
    .kill [0, 8, 9, 10, 11],
    .app 13 .str false 16 (.t 7) (.t 12),
    .mv 2 (.t 13),
    .ren 77 66,
    .keep [2],
    .drop [71, 77]])
  (.ret)))⟩
def sLockOk_m : Fn := ⟨1, [.t 2], false,
  .seq (.r [.bx 1 TLock true (.t 0),
    .mv 2 (.c (.d (.b false))),
    .keep [1]])
  (.seq (.r [.fa 3 (.t 1) 0,
    .ld 4 1 false (.t 3),
    .call 5 true [] (.c (.clo sl1In [])) [(.t 4), (.c (.d (.i .i64 1))), (.c (.d (.i .i64 9999)))],
    .mv 6 (.t 5),
    .gd 6 true (some 7) (.fa 7 (.t 1) 1),
    .gd 6 true (some 8) (.ld 8 1 false (.t 7)),
    .gd 6 true (some 9) (.call 9 true [] (.c (.clo sPathOk [])) [(.t 8)]),
    .kill [3, 4, 5, 7, 8],
    .pick 10 (.t 6) (.t 9) (.c (.d (.b false))),
    .mv 11 (.t 10),
    .gd 11 true (some 12) (.fa 12 (.t 1) 4),
    .gd 11 true (some 13) (.ld 13 1 false (.t 12)),
    .kill [1, 6, 9, 10, 12],
    .gd 11 true (some 14) (.call 14 true [] (.c (.clo sl1In [])) [(.t 13), (.c (.d (.i .i64 0))), (.c (.d (.i .i64 9999999)))]),
    .pick 15 (.t 11) (.t 14) (.c (.d (.b false))),
    .mv 2 (.t 15),
    .keep [2],
    .drop [65]])
  (.ret))⟩
def sLockClash_m : Fn := ⟨2, [.t 4], false,
  .seq (.r [.bx 2 TLock true (.t 0),
    .bx 3 TLock true (.t 1),
    .mv 4 (.c (.d (.b false))),
    .keep [3, 2]])
  (.seq (.r [.fa 5 (.t 2) 3,
    .ld 6 1 false (.t 5),
    .not 7 (.t 6),
    .mv 8 (.t 7),
    .gd 8 false (some 9) (.fa 9 (.t 3) 3),
    .gd 8 false (some 10) (.ld 10 1 false (.t 9)),
    .gd 8 false (some 11) (.not 11 (.t 10)),
    .kill [5, 6, 7, 9, 10],
    .pick 12 (.t 8) (.c (.d (.b true))) (.t 11),
    .mv 13 (.t 12),
    .gd 13 true (some 14) (.ld 14 5 true (.t 2)),
    .gd 13 true (some 15) (.fa 15 (.t 3) 1),
    .gd 13 true (some 16) (.ld 16 1 false (.t 15)),
    .gd 13 true (some 17) (.call 17 true [] (.c (.clo sCovers [])) [(.t 14), (.t 16)]),
    .kill [8, 11, 12, 14, 15, 16],
    .gd 13 true (some 18) (.mv 18 (.t 17)),
    .gd 18 false (some 19) (.ld 19 5 true (.t 3)),
    .gd 18 false (some 20) (.fa 20 (.t 2) 1),
    .gd 18 false (some 21) (.ld 21 1 false (.t 20)),
    .gd 18 false (some 22) (.call 22 true [] (.c (.clo sCovers [])) [(.t 19), (.t 21)]),
    .kill [2, 3, 17, 19, 20, 21],
    .gd 13 true (some 23) (.pick 23 (.t 18) (.c (.d (.b true))) (.t 22)),
    .pick 24 (.t 13) (.t 23) (.c (.d (.b false))),
    .mv 4 (.t 24),
    .keep [4],
    .drop [66, 67]])
  (.ret))⟩
def sTagText_m : Fn := ⟨1, [.t 2], false,
  .seq (.r [.mv 2 (.c (.d (.s []))),
    .kill [2]])
  (.seq (.r [.mv 3 (.t 0),
    .call 4 true [] (.c (.clo sNumText [])) [(.t 3)],
    .bin 5 .add .num (.c (.d (.s [34, 118]))) (.t 4),
    .bin 6 .add .num (.t 5) (.c (.d (.s [34]))),
    .mv 2 (.t 6),
    .keep [2]])
  (.ret))⟩
/-- live: [0, 1, 5]; objects: [] -/
def sFindRes_l0 : C :=
  .seq (.seq (.r [.mv 6 (.t 5),
      .mv 7 (.t 0),
      .len 8 (.t 7),
      .bin 9 .lss .num (.t 6) (.t 8),
      .kill [6, 7, 8]])
    (.cond (.t 9)
      (.pre [.kill [9]] (.skip))
      (.pre [.keep []] (.ex 0))))
    (.seq (.blk 1 (.seq (.r [.mv 12 (.t 0),
      .mv 13 (.t 5),
      .ia 14 5 (.t 12) (.t 13),
      .fa 15 (.t 14) 0,
      .ld 16 1 false (.t 15),
      .mv 17 (.t 1),
      .call 18 true [] (.c (.clo sSamePath [])) [(.t 16), (.t 17)],
      .keep [18, 5, 1, 0]])
    (.cond (.t 18)
      (.pre [.keep [5]] (.seq (.r [.mv 19 (.t 5),
        .mv 4 (.t 19),
        .keep [4]])
      (.ret)))
      (.pre [.kill [18]] (.skip)))))
    (.r [.mv 10 (.t 5),
      .bin 11 .add .num (.t 10) (.c (.d (.i .i64 1))),
      .mv 5 (.t 11),
      .kill [10, 11]]))
def sFindRes_m : Fn := ⟨2, [.t 4], false,
  .seq (.r [.mv 4 (.c (.d (.i .i64 0))),
    .kill [4]])
  (.seq (.seq (.r [.mv 5 (.c (.d (.i .i64 0)))])
  (.blk 0 (.pre [.keep [5, 1, 0]] (.loop sFindRes_l0))))
  (.seq (.r [.mv 4 (.c (.d (.i .i64 (-1))))])
  (.ret)))⟩
/-- live: [0, 3, 4]; objects: [71] -/
def wtoStringS_l0 : C :=
  .seq (.seq (.r [.mv 8 (.t 4),
      .mv 9 (.t 0),
      .len 10 (.t 9),
      .bin 11 .lss .num (.t 8) (.t 10),
      .kill [8, 9, 10]])
    (.cond (.t 11)
      (.pre [.kill [11]] (.skip))
      (.pre [.keep [3]] (.ex 0))))
    (.seq (.blk 1 (.r [.mv 14 (.t 3),
      .mv 15 (.t 4),
      .mv 16 (.t 0),
      .mv 17 (.t 4),
      .ia 18 1 (.t 16) (.t 17),
      .ld 19 1 false (.t 18),
      .ia 20 1 (.t 14) (.t 15),
      .kill [14, 15, 16, 17, 18],
      .st 1 (.t 20) (.t 19),
      .keep [4, 3, 0]]))
    (.r [.mv 12 (.t 4),
      .bin 13 .add .num (.t 12) (.c (.d (.i .i64 1))),
      .mv 4 (.t 13),
      .kill [12, 13]]))
def wtoStringS_m : Fn := ⟨1, [.t 2], false,
  .seq (.r [.mv 2 (.c (.nil .str)),
    .opn 2 2 false,
    .kill [2],
    .drop [66]])
  (.seq (.r [.mv 5 (.t 0),
    .len 6 (.t 5),
    .mk 7 .str 16 (.t 6),
    .mv 3 (.t 7),
    .keep [3, 0]])
  (.seq (.seq (.r [.mv 4 (.c (.d (.i .i64 0)))])
  (.blk 0 (.pre [.keep [4, 3, 0]] (.loop wtoStringS_l0))))
  (.seq (.r [.mv 21 (.t 3),
    .mv 2 (.t 21),
    .ren 71 66,
    .keep [2],
    .drop [71]])
  (.ret))))⟩
/-- live: [0, 3, 4]; objects: [71] -/
def wtoPropS_l0 : C :=
  .seq (.seq (.r [.mv 8 (.t 4),
      .mv 9 (.t 0),
      .len 10 (.t 9),
      .bin 11 .lss .num (.t 8) (.t 10),
      .kill [8, 9, 10]])
    (.cond (.t 11)
      (.pre [.kill [11]] (.skip))
      (.pre [.keep [3]] (.ex 0))))
    (.seq (.blk 1 (.r [.mv 14 (.t 3),
      .mv 15 (.t 4),
      .mv 16 (.t 0),
      .mv 17 (.t 4),
      .ia 18 3 (.t 16) (.t 17),
      .ld 19 3 true (.t 18),
      .call 20 true [] (.c (.clo wtoProp [])) [(.t 19)],
      .ia 21 3 (.t 14) (.t 15),
      .kill [14, 15, 16, 17, 18, 19],
      .st 3 (.t 21) (.t 20),
      .keep [4, 3, 0]]))
    (.r [.mv 12 (.t 4),
      .bin 13 .add .num (.t 12) (.c (.d (.i .i64 1))),
      .mv 4 (.t 13),
      .kill [12, 13]]))
def wtoPropS_m : Fn := ⟨1, [.t 2], false,
  .seq (.r [.mv 2 (.c (.nil TProp)),
    .opn 2 2 false,
    .kill [2],
    .drop [66]])
  (.seq (.r [.mv 5 (.t 0),
    .len 6 (.t 5),
    .mk 7 TProp 48 (.t 6),
    .mv 3 (.t 7),
    .keep [3, 0]])
  (.seq (.seq (.r [.mv 4 (.c (.d (.i .i64 0)))])
  (.blk 0 (.pre [.keep [4, 3, 0]] (.loop wtoPropS_l0))))
  (.seq (.r [.mv 22 (.t 3),
    .mv 2 (.t 22),
    .ren 71 66,
    .keep [2],
    .drop [71]])
  (.ret))))⟩
def iresOk_m : Fn := ⟨1, [.t 2], false,
  .seq (.r [.bx 1 TRes true (.t 0),
    .mv 2 (.c (.d (.b false))),
    .keep [1]])
  (.seq (.r [.fa 3 (.t 1) 0,
    .ld 4 1 false (.t 3),
    .len 5 (.t 4),
    .bin 6 .gtr .num (.t 5) (.c (.d (.i .i64 0))),
    .mv 7 (.t 6),
    .gd 7 true (some 8) (.fa 8 (.t 1) 0),
    .gd 7 true (some 9) (.ld 9 1 false (.t 8)),
    .kill [3, 4, 5, 6, 8],
    .gd 7 true (some 10) (.call 10 true [] (.c (.clo iPathOk [])) [(.t 9)]),
    .pick 11 (.t 7) (.t 10) (.c (.d (.b false))),
    .mv 12 (.t 11),
    .gd 12 true (some 13) (.fa 13 (.t 1) 1),
    .gd 12 true (some 14) (.ld 14 1 false (.t 13)),
    .kill [7, 9, 10, 11, 13],
    .gd 12 true (some 15) (.not 15 (.t 14)),
    .gd 12 true (some 16) (.mv 16 (.t 15)),
    .gd 16 false (some 17) (.fa 17 (.t 1) 2),
    .gd 16 false (some 18) (.ld 18 1 false (.t 17)),
    .gd 16 false (some 19) (.bin 19 .eql .num (.t 18) (.c (.d (.s [])))),
    .gd 12 true (some 20) (.pick 20 (.t 16) (.c (.d (.b true))) (.t 19)),
    .kill [14, 15, 16, 17, 18, 19],
    .pick 21 (.t 12) (.t 20) (.c (.d (.b false))),
    .mv 22 (.t 21),
    .gd 22 true (some 23) (.fa 23 (.t 1) 2),
    .gd 22 true (some 24) (.ld 24 1 false (.t 23)),
    .gd 22 true (some 25) (.lns 25 (.t 24)),
    .kill [12, 20, 21, 23, 24],
    .gd 22 true (some 26) (.bin 26 .leq .num (.t 25) (.c (.d (.i .i64 200)))),
    .pick 27 (.t 22) (.t 26) (.c (.d (.b false))),
    .mv 28 (.t 27),
    .gd 28 true (some 29) (.fa 29 (.t 1) 3),
    .gd 28 true (some 30) (.ld 30 1 false (.t 29)),
    .kill [22, 25, 26, 27, 29],
    .gd 28 true (some 31) (.call 31 true [] (.c (.clo iin [])) [(.t 30), (.c (.d (.i .i64 0))), (.c (.d (.i .i64 99999)))]),
    .pick 32 (.t 28) (.t 31) (.c (.d (.b false))),
    .mv 33 (.t 32),
    .gd 33 true (some 34) (.fa 34 (.t 1) 4),
    .kill [1, 28, 30, 31, 32],
    .gd 33 true (some 35) (.ld 35 1 false (.t 34)),
    .gd 33 true (some 36) (.call 36 true [] (.c (.clo iPropsOk [])) [(.t 35)]),
    .pick 37 (.t 33) (.t 36) (.c (.d (.b false))),
    .mv 2 (.t 37),
    .keep [2],
    .drop [65]])
  (.ret))⟩
/-- live: [0, 1, 5]; objects: [] -/
def iLessPath_l0 : C :=
  .seq (.seq (.r [.mv 6 (.t 5),
      .mv 7 (.t 0),
      .len 8 (.t 7),
      .bin 9 .lss .num (.t 6) (.t 8),
      .mv 10 (.t 9),
      .gd 10 true (some 11) (.mv 11 (.t 5)),
      .gd 10 true (some 12) (.mv 12 (.t 1)),
      .gd 10 true (some 13) (.len 13 (.t 12)),
      .kill [6, 7, 8, 9, 12],
      .gd 10 true (some 14) (.bin 14 .lss .num (.t 11) (.t 13)),
      .pick 15 (.t 10) (.t 14) (.c (.d (.b false))),
      .keep [15, 5, 1, 0]])
    (.cond (.t 15)
      (.pre [.kill [15]] (.skip))
      (.pre [.kill [5, 15]] (.ex 0))))
    (.seq (.blk 1 (.seq (.post (.r [.mv 18 (.t 0),
      .mv 19 (.t 5),
      .ia 20 1 (.t 18) (.t 19),
      .ld 21 1 false (.t 20),
      .mv 22 (.t 1),
      .mv 23 (.t 5),
      .ia 24 1 (.t 22) (.t 23),
      .ld 25 1 false (.t 24),
      .bin 26 .neq .num (.t 21) (.t 25)]) [.keep [26, 5, 1, 0]])
    (.cond (.t 26)
      (.pre [.kill [26]] (.seq (.post (.r [.mv 27 (.t 0),
        .mv 28 (.t 5),
        .ia 29 1 (.t 27) (.t 28),
        .ld 30 1 false (.t 29),
        .mv 31 (.t 1),
        .mv 32 (.t 5),
        .ia 33 1 (.t 31) (.t 32),
        .ld 34 1 false (.t 33),
        .bin 35 .lss .num (.t 30) (.t 34),
        .mv 4 (.t 35)]) [.keep [4]])
      (.ret)))
      (.pre [.kill [26]] (.skip)))))
    (.r [.mv 16 (.t 5),
      .bin 17 .add .num (.t 16) (.c (.d (.i .i64 1))),
      .mv 5 (.t 17),
      .kill [16, 17]]))
def iLessPath_m : Fn := ⟨2, [.t 4], false,
  .seq (.r [.mv 4 (.c (.d (.b false))),
    .kill [4]])
  (.seq (.seq (.r [.mv 5 (.c (.d (.i .i64 0)))])
  (.blk 0 (.pre [.keep [5, 1, 0]] (.loop iLessPath_l0))))
  (.seq (.r [.mv 36 (.t 0),
    .len 37 (.t 36),
    .mv 38 (.t 1),
    .len 39 (.t 38),
    .bin 40 .lss .num (.t 37) (.t 39),
    .kill [0, 1, 36, 37, 38, 39],
    .mv 4 (.t 40),
    .keep [4]])
  (.ret)))⟩
def iIsColl_m : Fn := ⟨2, [.t 4], false,
  .seq (.r [.mv 4 (.c (.d (.b false))),
    .kill [4]])
  (.seq (.seq (.r [.mv 6 (.t 1),
    .len 7 (.t 6),
    .bin 8 .eql .num (.t 7) (.c (.d (.i .i64 0))),
    .kill [6, 7]])
  (.cond (.t 8)
    (.pre [.keep []] (.seq (.r [.mv 4 (.c (.d (.b true)))])
    (.ret)))
    (.pre [.kill [8]] (.skip))))
  (.seq (.r [.mv 9 (.t 0),
    .mv 10 (.t 1),
    .call 11 true [] (.c (.clo iFindRes [])) [(.t 9), (.t 10)],
    .mv 5 (.t 11),
    .keep [5, 0]])
  (.seq (.r [.mv 12 (.t 5),
    .bin 13 .geq .num (.t 12) (.c (.d (.i .i64 0))),
    .mv 14 (.t 13),
    .gd 14 true (some 15) (.mv 15 (.t 0)),
    .gd 14 true (some 16) (.mv 16 (.t 5)),
    .gd 14 true (some 17) (.ia 17 5 (.t 15) (.t 16)),
    .kill [0, 5, 12, 13, 15, 16],
    .gd 14 true (some 18) (.fa 18 (.t 17) 1),
    .gd 14 true (some 19) (.ld 19 1 false (.t 18)),
    .pick 20 (.t 14) (.t 19) (.c (.d (.b false))),
    .mv 4 (.t 20),
    .keep [4]])
  (.ret))))⟩
def iAbove_m : Fn := ⟨1, [.t 2], false,
  .seq (.r [.mv 2 (.c (.nil .str)),
    .opn 2 2 false,
    .kill [2],
    .drop [66]])
  (.seq (.seq (.r [.mv 3 (.t 0),
    .len 4 (.t 3),
    .bin 5 .eql .num (.t 4) (.c (.d (.i .i64 0))),
    .kill [3, 4]])
  (.cond (.t 5)
    (.pre [.keep []] (.seq (.r [.mv 2 (.c (.nil .str)),
      .opn 2 2 false])
    (.ret)))
    (.pre [.kill [5]] (.skip))))
  (.seq (.r [.mv 6 (.t 0),
    .mv 7 (.t 0),
    .len 8 (.t 7),
    .bin 9 .sub .num (.t 8) (.c (.d (.i .i64 1))),
    .slc 10 1 (.t 6) none (some (.t 9)),
    .kill [0, 6, 7, 8, 9],
    .call 11 false [] (.c (.clo icopyPath [])) [(.t 10)],
    .mv 2 (.t 11),
    .ren 12064 66,
    .keep [2],
    .drop [12064]])
  (.ret)))⟩
def iLockOk_m : Fn := ⟨1, [.t 2], false,
  .seq (.r [.bx 1 TLock true (.t 0),
    .mv 2 (.c (.d (.b false))),
    .keep [1]])
  (.seq (.r [.fa 3 (.t 1) 0,
    .ld 4 1 false (.t 3),
    .call 5 true [] (.c (.clo iin [])) [(.t 4), (.c (.d (.i .i64 1))), (.c (.d (.i .i64 9999)))],
    .mv 6 (.t 5),
    .gd 6 true (some 7) (.fa 7 (.t 1) 1),
    .gd 6 true (some 8) (.ld 8 1 false (.t 7)),
    .gd 6 true (some 9) (.call 9 true [] (.c (.clo iPathOk [])) [(.t 8)]),
    .kill [3, 4, 5, 7, 8],
    .pick 10 (.t 6) (.t 9) (.c (.d (.b false))),
    .mv 11 (.t 10),
    .gd 11 true (some 12) (.fa 12 (.t 1) 4),
    .gd 11 true (some 13) (.ld 13 1 false (.t 12)),
    .kill [1, 6, 9, 10, 12],
    .gd 11 true (some 14) (.call 14 true [] (.c (.clo iin [])) [(.t 13), (.c (.d (.i .i64 0))), (.c (.d (.i .i64 9999999)))]),
    .pick 15 (.t 11) (.t 14) (.c (.d (.b false))),
    .mv 2 (.t 15),
    .keep [2],
    .drop [65]])
  (.ret))⟩
def iLockClash_m : Fn := ⟨2, [.t 4], false,
  .seq (.r [.bx 2 TLock true (.t 0),
    .bx 3 TLock true (.t 1),
    .mv 4 (.c (.d (.b false))),
    .keep [3, 2]])
  (.seq (.r [.fa 5 (.t 2) 3,
    .ld 6 1 false (.t 5),
    .mv 7 (.t 6),
    .gd 7 true (some 8) (.fa 8 (.t 3) 3),
    .gd 7 true (some 9) (.ld 9 1 false (.t 8)),
    .pick 10 (.t 7) (.t 9) (.c (.d (.b false))),
    .kill [5, 6, 7, 8, 9],
    .not 11 (.t 10),
    .mv 12 (.t 11),
    .gd 12 true (some 13) (.ld 13 5 true (.t 2)),
    .gd 12 true (some 14) (.fa 14 (.t 3) 1),
    .gd 12 true (some 15) (.ld 15 1 false (.t 14)),
    .gd 12 true (some 16) (.call 16 true [] (.c (.clo iCovers [])) [(.t 13), (.t 15)]),
    .kill [10, 11, 13, 14, 15],
    .gd 12 true (some 17) (.mv 17 (.t 16)),
    .gd 17 false (some 18) (.ld 18 5 true (.t 3)),
    .gd 17 false (some 19) (.fa 19 (.t 2) 1),
    .gd 17 false (some 20) (.ld 20 1 false (.t 19)),
    .gd 17 false (some 21) (.call 21 true [] (.c (.clo iCovers [])) [(.t 18), (.t 20)]),
    .kill [2, 3, 16, 18, 19, 20],
    .gd 12 true (some 22) (.pick 22 (.t 17) (.c (.d (.b true))) (.t 21)),
    .pick 23 (.t 12) (.t 22) (.c (.d (.b false))),
    .mv 4 (.t 23),
    .keep [4],
    .drop [66, 67]])
  (.ret))⟩
def iTagText_m : Fn := ⟨1, [.t 2], false,
  .seq (.r [.mv 2 (.c (.d (.s []))),
    .kill [2]])
  (.seq (.r [.mv 3 (.t 0),
    .call 4 true [] (.c (.clo iNumText [])) [(.t 3)],
    .bin 5 .add .num (.c (.d (.s [34, 118]))) (.t 4),
    .bin 6 .add .num (.t 5) (.c (.d (.s [34]))),
    .mv 2 (.t 6),
    .keep [2]])
  (.ret))⟩
/-- live: [1, 7, 8, 9]; objects: [] -/
def iFindRes_l0 : C :=
  .seq (.r [.bin 10 .lss .num (.t 9) (.t 8)])
    (.seq (.cond (.t 10)
      (.pre [.kill [10]] (.skip))
      (.pre [.keep []] (.ex 0)))
    (.seq (.blk 1 (.seq (.r [.mv 11 (.t 9),
      .ia 12 5 (.t 7) (.t 9),
      .ld 13 5 true (.t 12),
      .al 6 TRes true,
      .mv 5 (.t 11),
      .st 5 (.t 6) (.t 13),
      .kill [11, 12, 13]])
    (.seq (.r [.fa 14 (.t 6) 0,
      .ld 15 1 false (.t 14),
      .mv 16 (.t 1),
      .call 17 true [] (.c (.clo iSamePath [])) [(.t 15), (.t 16)],
      .kill [6, 14, 15, 16],
      .drop [70]])
    (.cond (.t 17)
      (.pre [.keep [5]] (.seq (.r [.mv 18 (.t 5),
        .mv 4 (.t 18),
        .keep [4]])
      (.ret)))
      (.pre [.kill [5, 17]] (.skip))))))
    (.r [.bin 19 .add .num (.t 9) (.c (.d (.i .i64 1))),
      .mv 9 (.t 19),
      .kill [19]])))
def iFindRes_m : Fn := ⟨2, [.t 4], false,
  .seq (.r [.mv 4 (.c (.d (.i .i64 0))),
    .kill [4]])
  (.seq (.seq (.r [.mv 7 (.t 0),
    .len 8 (.t 7),
    .mv 9 (.c (.d (.i .i64 0))),
    .kill [0]])
  (.blk 0 (.pre [.keep [9, 8, 7, 1]] (.loop iFindRes_l0))))
  (.seq (.r [.mv 4 (.c (.d (.i .i64 (-1))))])
  (.ret)))⟩
/-- live: [0, 1, 5]; objects: [] -/
def weqStringS_l0 : C :=
  .seq (.seq (.r [.mv 11 (.t 5),
      .mv 12 (.t 0),
      .len 13 (.t 12),
      .bin 14 .lss .num (.t 11) (.t 13),
      .kill [11, 12, 13]])
    (.cond (.t 14)
      (.pre [.kill [14]] (.skip))
      (.pre [.keep []] (.ex 0))))
    (.seq (.blk 1 (.seq (.post (.r [.mv 17 (.t 0),
      .mv 18 (.t 5),
      .ia 19 1 (.t 17) (.t 18),
      .ld 20 1 false (.t 19),
      .mv 21 (.t 1),
      .mv 22 (.t 5),
      .ia 23 1 (.t 21) (.t 22),
      .ld 24 1 false (.t 23),
      .bin 25 .neq .num (.t 20) (.t 24)]) [.keep [25, 5, 1, 0]])
    (.cond (.t 25)
      (.pre [.keep []] (.seq (.r [.mv 4 (.c (.d (.b false)))])
      (.ret)))
      (.pre [.kill [25]] (.skip)))))
    (.r [.mv 15 (.t 5),
      .bin 16 .add .num (.t 15) (.c (.d (.i .i64 1))),
      .mv 5 (.t 16),
      .kill [15, 16]]))
def weqStringS_m : Fn := ⟨2, [.t 4], false,
  .seq (.r [.mv 4 (.c (.d (.b false))),
    .kill [4]])
  (.seq (.seq (.r [.mv 6 (.t 0),
    .len 7 (.t 6),
    .mv 8 (.t 1),
    .len 9 (.t 8),
    .bin 10 .neq .num (.t 7) (.t 9),
    .keep [10, 1, 0]])
  (.cond (.t 10)
    (.pre [.keep []] (.seq (.r [.mv 4 (.c (.d (.b false)))])
    (.ret)))
    (.pre [.kill [10]] (.skip))))
  (.seq (.seq (.r [.mv 5 (.c (.d (.i .i64 0)))])
  (.blk 0 (.pre [.keep [5, 1, 0]] (.loop weqStringS_l0))))
  (.seq (.r [.mv 4 (.c (.d (.b true)))])
  (.ret))))⟩
/-- live: [0, 1, 5]; objects: [] -/
def weqPropS_l0 : C :=
  .seq (.seq (.r [.mv 11 (.t 5),
      .mv 12 (.t 0),
      .len 13 (.t 12),
      .bin 14 .lss .num (.t 11) (.t 13),
      .kill [11, 12, 13]])
    (.cond (.t 14)
      (.pre [.kill [14]] (.skip))
      (.pre [.keep []] (.ex 0))))
    (.seq (.blk 1 (.seq (.post (.r [.mv 17 (.t 0),
      .mv 18 (.t 5),
      .ia 19 3 (.t 17) (.t 18),
      .ld 20 3 true (.t 19),
      .mv 21 (.t 1),
      .mv 22 (.t 5),
      .ia 23 3 (.t 21) (.t 22),
      .ld 24 3 true (.t 23),
      .call 25 true [] (.c (.clo weqProp [])) [(.t 20), (.t 24)],
      .not 26 (.t 25)]) [.keep [26, 5, 1, 0]])
    (.cond (.t 26)
      (.pre [.keep []] (.seq (.r [.mv 4 (.c (.d (.b false)))])
      (.ret)))
      (.pre [.kill [26]] (.skip)))))
    (.r [.mv 15 (.t 5),
      .bin 16 .add .num (.t 15) (.c (.d (.i .i64 1))),
      .mv 5 (.t 16),
      .kill [15, 16]]))
def weqPropS_m : Fn := ⟨2, [.t 4], false,
  .seq (.r [.mv 4 (.c (.d (.b false))),
    .kill [4]])
  (.seq (.seq (.r [.mv 6 (.t 0),
    .len 7 (.t 6),
    .mv 8 (.t 1),
    .len 9 (.t 8),
    .bin 10 .neq .num (.t 7) (.t 9),
    .keep [10, 1, 0]])
  (.cond (.t 10)
    (.pre [.keep []] (.seq (.r [.mv 4 (.c (.d (.b false)))])
    (.ret)))
    (.pre [.kill [10]] (.skip))))
  (.seq (.seq (.r [.mv 5 (.c (.d (.i .i64 0)))])
  (.blk 0 (.pre [.keep [5, 1, 0]] (.loop weqPropS_l0))))
  (.seq (.r [.mv 4 (.c (.d (.b true)))])
  (.ret))))⟩
def wszProp_m : Fn := ⟨2, [.t 4], false,
  .seq (.r [.bx 2 TProp false (.t 0),
    .mv 4 (.c (.d (.i .i64 0))),
    .kill [0, 4]])
  (.seq (.r [.mv 5 (.t 1),
    .fa 6 (.t 2) 0,
    .ld 7 1 false (.t 6),
    .lns 8 (.t 7),
    .bin 9 .sub .num (.t 5) (.t 8),
    .kill [1, 5, 6, 7, 8],
    .mv 1 (.t 9),
    .keep [2, 1]])
  (.seq (.seq (.r [.mv 10 (.t 1),
    .bin 11 .lss .num (.t 10) (.c (.d (.i .i64 0))),
    .kill [10]])
  (.cond (.t 11)
    (.pre [.keep [], .drop [66]] (.seq (.r [.mv 4 (.c (.d (.i .i64 (-1))))])
    (.ret)))
    (.pre [.kill [11]] (.skip))))
  (.seq (.r [.mv 12 (.t 1),
    .fa 13 (.t 2) 1,
    .ld 14 1 false (.t 13),
    .lns 15 (.t 14),
    .bin 16 .sub .num (.t 12) (.t 15),
    .kill [1, 12, 13, 14, 15],
    .mv 1 (.t 16),
    .keep [2, 1]])
  (.seq (.seq (.r [.mv 17 (.t 1),
    .bin 18 .lss .num (.t 17) (.c (.d (.i .i64 0))),
    .kill [17]])
  (.cond (.t 18)
    (.pre [.keep [], .drop [66]] (.seq (.r [.mv 4 (.c (.d (.i .i64 (-1))))])
    (.ret)))
    (.pre [.kill [18]] (.skip))))
  (.seq (.r [.mv 19 (.t 1),
    .fa 20 (.t 2) 2,
    .ld 21 1 false (.t 20),
    .lns 22 (.t 21),
    .bin 23 .sub .num (.t 19) (.t 22),
    .kill [1, 2, 19, 20, 21, 22],
    .mv 1 (.t 23),
    .keep [1],
    .drop [66]])
  (.seq (.seq (.r [.mv 24 (.t 1),
    .bin 25 .lss .num (.t 24) (.c (.d (.i .i64 0))),
    .kill [24]])
  (.cond (.t 25)
    (.pre [.keep []] (.seq (.r [.mv 4 (.c (.d (.i .i64 (-1))))])
    (.ret)))
    (.pre [.kill [25]] (.skip))))
  (.seq (.r [.mv 26 (.t 1),
    .mv 4 (.t 26),
    .keep [4]])
  (.ret))))))))⟩
/-- live: [0, 3]; objects: [] -/
def sNameOk_l0 : C :=
  .seq (.seq (.r [.mv 4 (.t 3),
      .mv 5 (.t 0),
      .lns 6 (.t 5),
      .bin 7 .lss .num (.t 4) (.t 6),
      .kill [4, 5, 6]])
    (.cond (.t 7)
      (.pre [.kill [7]] (.skip))
      (.pre [.keep [0]] (.ex 0))))
    (.seq (.blk 1 (.seq (.r [.mv 10 (.t 0),
      .mv 11 (.t 3),
      .ix 12 (.t 10) (.t 11),
      .bin 13 .eql .num (.t 12) (.c (.d (.u 47))),
      .kill [10, 11, 12]])
    (.cond (.t 13)
      (.pre [.keep []] (.seq (.r [.mv 2 (.c (.d (.b false)))])
      (.ret)))
      (.pre [.kill [13]] (.skip)))))
    (.r [.mv 8 (.t 3),
      .bin 9 .add .num (.t 8) (.c (.d (.i .i64 1))),
      .mv 3 (.t 9),
      .kill [8, 9]]))
def sNameOk_m : Fn := ⟨1, [.t 2], false,
  .seq (.r [.mv 2 (.c (.d (.b false))),
    .kill [2]])
  (.seq (.seq (.r [.mv 3 (.c (.d (.i .i64 0)))])
  (.blk 0 (.pre [.keep [3, 0]] (.loop sNameOk_l0))))
  (.seq (.r [.mv 14 (.t 0),
    .lns 15 (.t 14),
    .call 16 true [] (.c (.clo sl1In [])) [(.t 15), (.c (.d (.i .i64 1))), (.c (.d (.i .i64 8)))],
    .mv 17 (.t 16),
    .gd 17 true (some 18) (.mv 18 (.t 0)),
    .gd 17 true (some 19) (.call 19 true [] (.c (.clo sPlain [])) [(.t 18)]),
    .pick 20 (.t 17) (.t 19) (.c (.d (.b false))),
    .kill [14, 15, 16, 17, 18, 19],
    .mv 21 (.t 20),
    .gd 21 true (some 22) (.mv 22 (.t 0)),
    .gd 21 true (some 23) (.bin 23 .neq .num (.t 22) (.c (.d (.s [46])))),
    .pick 24 (.t 21) (.t 23) (.c (.d (.b false))),
    .mv 25 (.t 24),
    .kill [20, 21, 22, 23, 24],
    .gd 25 true (some 26) (.mv 26 (.t 0)),
    .gd 25 true (some 27) (.bin 27 .neq .num (.t 26) (.c (.d (.s [46, 46])))),
    .pick 28 (.t 25) (.t 27) (.c (.d (.b false))),
    .mv 2 (.t 28),
    .keep [2]])
  (.ret)))⟩
def sl10Prop_m : Fn := ⟨1, [.t 2], false,
  .seq (.r [.bx 1 TProp false (.t 0),
    .mv 2 (.c (.d (.b false))),
    .keep [1]])
  (.seq (.r [.fa 3 (.t 1) 0,
    .ld 4 1 false (.t 3),
    .lns 5 (.t 4),
    .bin 6 .leq .num (.t 5) (.c (.d (.i .i64 20))),
    .mv 7 (.t 6),
    .gd 7 true (some 8) (.fa 8 (.t 1) 0),
    .gd 7 true (some 9) (.ld 9 1 false (.t 8)),
    .kill [3, 4, 5, 6, 8],
    .gd 7 true (some 10) (.call 10 true [] (.c (.clo sPlain [])) [(.t 9)]),
    .pick 11 (.t 7) (.t 10) (.c (.d (.b false))),
    .mv 12 (.t 11),
    .gd 12 true (some 13) (.fa 13 (.t 1) 1),
    .gd 12 true (some 14) (.ld 14 1 false (.t 13)),
    .kill [7, 9, 10, 11, 13],
    .gd 12 true (some 15) (.call 15 true [] (.c (.clo sSmallName [])) [(.t 14)]),
    .pick 16 (.t 12) (.t 15) (.c (.d (.b false))),
    .mv 17 (.t 16),
    .gd 17 true (some 18) (.fa 18 (.t 1) 2),
    .gd 17 true (some 19) (.ld 19 1 false (.t 18)),
    .kill [12, 14, 15, 16, 18],
    .gd 17 true (some 20) (.lns 20 (.t 19)),
    .gd 17 true (some 21) (.bin 21 .leq .num (.t 20) (.c (.d (.i .i64 20)))),
    .pick 22 (.t 17) (.t 21) (.c (.d (.b false))),
    .mv 23 (.t 22),
    .kill [17, 19, 20, 21, 22],
    .gd 23 true (some 24) (.fa 24 (.t 1) 2),
    .gd 23 true (some 25) (.ld 25 1 false (.t 24)),
    .gd 23 true (some 26) (.call 26 true [] (.c (.clo sPlain [])) [(.t 25)]),
    .pick 27 (.t 23) (.t 26) (.c (.d (.b false))),
    .kill [1, 23, 24, 25, 26],
    .mv 2 (.t 27),
    .keep [2],
    .drop [65]])
  (.ret))⟩
def sl10LessProp_m : Fn := ⟨2, [.t 4], false,
  .seq (.r [.bx 2 TProp false (.t 0),
    .bx 3 TProp false (.t 1),
    .mv 4 (.c (.d (.b false))),
    .keep [3, 2]])
  (.seq (.seq (.r [.fa 5 (.t 2) 0,
    .ld 6 1 false (.t 5),
    .fa 7 (.t 3) 0,
    .ld 8 1 false (.t 7),
    .bin 9 .neq .num (.t 6) (.t 8),
    .keep [9, 3, 2]])
  (.cond (.t 9)
    (.pre [.kill [9]] (.seq (.r [.fa 10 (.t 2) 0,
      .ld 11 1 false (.t 10),
      .fa 12 (.t 3) 0,
      .ld 13 1 false (.t 12),
      .bin 14 .lss .num (.t 11) (.t 13),
      .kill [2, 3, 10, 11, 12, 13],
      .mv 4 (.t 14),
      .keep [4],
      .drop [66, 67]])
    (.ret)))
    (.pre [.kill [9]] (.skip))))
  (.seq (.r [.fa 15 (.t 2) 1,
    .ld 16 1 false (.t 15),
    .fa 17 (.t 3) 1,
    .ld 18 1 false (.t 17),
    .bin 19 .lss .num (.t 16) (.t 18),
    .kill [2, 3, 15, 16, 17, 18],
    .mv 4 (.t 19),
    .keep [4],
    .drop [66, 67]])
  (.ret)))⟩
def sCovers_m : Fn := ⟨2, [.t 4], false,
  .seq (.r [.bx 2 TLock true (.t 0),
    .mv 4 (.c (.d (.b false))),
    .kill [0, 4]])
  (.seq (.r [.fa 5 (.t 2) 1,
    .ld 6 1 false (.t 5),
    .mv 7 (.t 1),
    .call 8 true [] (.c (.clo sSamePath [])) [(.t 6), (.t 7)],
    .mv 9 (.t 8),
    .gd 9 false (some 10) (.fa 10 (.t 2) 2),
    .gd 9 false (some 11) (.ld 11 1 false (.t 10)),
    .kill [5, 6, 7, 8, 10],
    .gd 9 false (some 12) (.mv 12 (.t 11)),
    .gd 12 true (some 13) (.mv 13 (.t 1)),
    .gd 12 true (some 14) (.fa 14 (.t 2) 1),
    .gd 12 true (some 15) (.ld 15 1 false (.t 14)),
    .gd 12 true (some 16) (.call 16 true [] (.c (.clo sUnder [])) [(.t 13), (.t 15)]),
    .kill [1, 2, 11, 13, 14, 15],
    .gd 9 false (some 17) (.pick 17 (.t 12) (.t 16) (.c (.d (.b false)))),
    .pick 18 (.t 9) (.c (.d (.b true))) (.t 17),
    .mv 4 (.t 18),
    .keep [4],
    .drop [66]])
  (.ret))⟩
/-- live: [0, 3]; objects: [] -/
def sNumText_l0 : C :=
  .seq (.seq (.r [.mv 12 (.t 0),
      .bin 13 .gtr .num (.t 12) (.c (.d (.i .i64 9))),
      .kill [12]])
    (.cond (.t 13)
      (.pre [.kill [13]] (.skip))
      (.pre [.keep [3]] (.ex 0))))
    (.blk 1 (.seq (.r [.mv 14 (.t 0),
      .bin 15 .quo .num (.t 14) (.c (.d (.i .i64 10))),
      .mv 0 (.t 15),
      .kill [14, 15]])
    (.r [.mv 16 (.t 0),
      .bin 17 .rem .num (.t 16) (.c (.d (.i .i64 10))),
      .bin 18 .add .num (.c (.d (.i .i64 48))) (.t 17),
      .cvi 19 .u8 (.t 18),
      .bs 20 .u8 false 1 [.d (.u 0)] [(0, (.t 19))],
      .b2s 21 (.t 20),
      .kill [16, 17, 18, 19, 20],
      .mv 22 (.t 3),
      .bin 23 .add .num (.t 21) (.t 22),
      .mv 3 (.t 23),
      .keep [3, 0],
      .drop [84]])))
def sNumText_m : Fn := ⟨1, [.t 2], false,
  .seq (.r [.mv 2 (.c (.d (.s []))),
    .kill [2]])
  (.seq (.seq (.r [.mv 4 (.t 0),
    .bin 5 .lss .num (.t 4) (.c (.d (.i .i64 0))),
    .kill [4]])
  (.cond (.t 5)
    (.pre [.keep []] (.r [.mv 0 (.c (.d (.i .i64 0)))]))
    (.pre [.kill [5]] (.skip))))
  (.seq (.r [.mv 6 (.t 0),
    .bin 7 .rem .num (.t 6) (.c (.d (.i .i64 10))),
    .bin 8 .add .num (.c (.d (.i .i64 48))) (.t 7),
    .cvi 9 .u8 (.t 8),
    .bs 10 .u8 false 1 [.d (.u 0)] [(0, (.t 9))],
    .b2s 11 (.t 10),
    .kill [6, 7, 8, 9, 10],
    .mv 3 (.t 11),
    .keep [3, 0],
    .drop [74]])
  (.seq (.blk 0 (.pre [.keep [3, 0]] (.loop sNumText_l0)))
  (.seq (.r [.mv 24 (.t 3),
    .mv 2 (.t 24),
    .keep [2]])
  (.ret)))))⟩
/-- live: [0, 1, 5]; objects: [] -/
def sSamePath_l0 : C :=
  .seq (.seq (.r [.mv 11 (.t 5),
      .mv 12 (.t 0),
      .len 13 (.t 12),
      .bin 14 .lss .num (.t 11) (.t 13),
      .kill [11, 12, 13]])
    (.cond (.t 14)
      (.pre [.kill [14]] (.skip))
      (.pre [.keep []] (.ex 0))))
    (.seq (.blk 1 (.seq (.post (.r [.mv 17 (.t 0),
      .mv 18 (.t 5),
      .ia 19 1 (.t 17) (.t 18),
      .ld 20 1 false (.t 19),
      .mv 21 (.t 1),
      .mv 22 (.t 5),
      .ia 23 1 (.t 21) (.t 22),
      .ld 24 1 false (.t 23),
      .bin 25 .neq .num (.t 20) (.t 24)]) [.keep [25, 5, 1, 0]])
    (.cond (.t 25)
      (.pre [.keep []] (.seq (.r [.mv 4 (.c (.d (.b false)))])
      (.ret)))
      (.pre [.kill [25]] (.skip)))))
    (.r [.mv 15 (.t 5),
      .bin 16 .add .num (.t 15) (.c (.d (.i .i64 1))),
      .mv 5 (.t 16),
      .kill [15, 16]]))
def sSamePath_m : Fn := ⟨2, [.t 4], false,
  .seq (.r [.mv 4 (.c (.d (.b false))),
    .kill [4]])
  (.seq (.seq (.r [.mv 6 (.t 0),
    .len 7 (.t 6),
    .mv 8 (.t 1),
    .len 9 (.t 8),
    .bin 10 .neq .num (.t 7) (.t 9),
    .keep [10, 1, 0]])
  (.cond (.t 10)
    (.pre [.keep []] (.seq (.r [.mv 4 (.c (.d (.b false)))])
    (.ret)))
    (.pre [.kill [10]] (.skip))))
  (.seq (.seq (.r [.mv 5 (.c (.d (.i .i64 0)))])
  (.blk 0 (.pre [.keep [5, 1, 0]] (.loop sSamePath_l0))))
  (.seq (.r [.mv 4 (.c (.d (.b true)))])
  (.ret))))⟩
def wtoProp_m : Fn := ⟨1, [.cell 2 3 true], false,
  .seq (.r [.bx 1 TProp false (.t 0),
    .al 2 TProp false,
    .kill [0]])
  (.seq (.r [.al 3 TProp false])
  (.seq (.r [.fa 4 (.t 1) 0,
    .ld 5 1 false (.t 4),
    .fa 6 (.t 3) 0,
    .st 1 (.t 6) (.t 5),
    .kill [4, 5, 6]])
  (.seq (.r [.fa 7 (.t 1) 1,
    .ld 8 1 false (.t 7),
    .fa 9 (.t 3) 1,
    .st 1 (.t 9) (.t 8),
    .kill [7, 8, 9]])
  (.seq (.r [.fa 10 (.t 1) 2,
    .ld 11 1 false (.t 10),
    .fa 12 (.t 3) 2,
    .st 1 (.t 12) (.t 11),
    .keep [3, 2],
    .drop [65]])
  (.seq (.r [.ld 13 3 true (.t 3),
    .st 3 (.t 2) (.t 13),
    .keep [2],
    .drop [67]])
  (.ret))))))⟩
/-- live: [0, 5, 6, 7]; objects: [] -/
def iPathOk_l0 : C :=
  .seq (.r [.bin 8 .lss .num (.t 7) (.t 6)])
    (.seq (.cond (.t 8)
      (.pre [.kill [8]] (.skip))
      (.pre [.keep [0]] (.ex 0)))
    (.seq (.blk 1 (.seq (.r [.ia 9 1 (.t 5) (.t 7),
      .ld 10 1 false (.t 9),
      .mv 4 (.t 10),
      .kill [9, 10]])
    (.seq (.r [.mv 11 (.t 4),
      .call 12 true [] (.c (.clo iNameOk [])) [(.t 11)],
      .not 13 (.t 12),
      .kill [4, 11, 12]])
    (.cond (.t 13)
      (.pre [.keep []] (.seq (.r [.mv 2 (.c (.d (.b false)))])
      (.ret)))
      (.pre [.kill [13]] (.skip))))))
    (.r [.bin 14 .add .num (.t 7) (.c (.d (.i .i64 1))),
      .mv 7 (.t 14),
      .kill [14]])))
def iPathOk_m : Fn := ⟨1, [.t 2], false,
  .seq (.r [.mv 2 (.c (.d (.b false))),
    .kill [2]])
  (.seq (.seq (.r [.mv 5 (.t 0),
    .len 6 (.t 5),
    .mv 7 (.c (.d (.i .i64 0)))])
  (.blk 0 (.pre [.keep [7, 6, 5, 0]] (.loop iPathOk_l0))))
  (.seq (.r [.mv 15 (.t 0),
    .len 16 (.t 15),
    .bin 17 .leq .num (.t 16) (.c (.d (.i .i64 4))),
    .mv 2 (.t 17),
    .keep [2]])
  (.ret)))⟩
/-- live: [0, 5, 6, 7]; objects: [] -/
def iPropsOk_l0 : C :=
  .seq (.r [.bin 8 .lss .num (.t 7) (.t 6)])
    (.seq (.cond (.t 8)
      (.pre [.kill [8]] (.skip))
      (.pre [.keep [0]] (.ex 0)))
    (.seq (.blk 1 (.seq (.r [.mv 9 (.t 7),
      .ia 10 3 (.t 5) (.t 7),
      .ld 11 3 true (.t 10),
      .al 4 TProp false,
      .mv 3 (.t 9),
      .st 3 (.t 4) (.t 11),
      .kill [9, 10, 11]])
    (.seq (.post (.r [.ld 12 3 true (.t 4),
      .call 13 true [] (.c (.clo ipropOk [])) [(.t 12)],
      .not 14 (.t 13),
      .mv 15 (.t 14),
      .gd 15 false (some 16) (.mv 16 (.t 3)),
      .gd 15 false (some 17) (.bin 17 .gtr .num (.t 16) (.c (.d (.i .i64 0)))),
      .gd 15 false (some 18) (.mv 18 (.t 17)),
      .gd 18 true (some 19) (.mv 19 (.t 0)),
      .gd 18 true (some 20) (.mv 20 (.t 3)),
      .gd 18 true (some 21) (.bin 21 .sub .num (.t 20) (.c (.d (.i .i64 1)))),
      .gd 18 true (some 22) (.ia 22 3 (.t 19) (.t 21)),
      .gd 18 true (some 23) (.ld 23 3 true (.t 22)),
      .gd 18 true (some 24) (.ld 24 3 true (.t 4)),
      .gd 18 true (some 25) (.call 25 true [] (.c (.clo ilessProp [])) [(.t 23), (.t 24)]),
      .gd 18 true (some 26) (.not 26 (.t 25)),
      .gd 15 false (some 27) (.pick 27 (.t 18) (.t 26) (.c (.d (.b false)))),
      .pick 28 (.t 15) (.c (.d (.b true))) (.t 27)]) [.keep [28, 7, 6, 5, 0], .drop [68]])
    (.cond (.t 28)
      (.pre [.keep []] (.seq (.r [.mv 2 (.c (.d (.b false)))])
      (.ret)))
      (.pre [.kill [28]] (.skip))))))
    (.r [.bin 29 .add .num (.t 7) (.c (.d (.i .i64 1))),
      .mv 7 (.t 29),
      .kill [29]])))
def iPropsOk_m : Fn := ⟨1, [.t 2], false,
  .seq (.r [.mv 2 (.c (.d (.b false))),
    .kill [2]])
  (.seq (.seq (.r [.mv 5 (.t 0),
    .len 6 (.t 5),
    .mv 7 (.c (.d (.i .i64 0)))])
  (.blk 0 (.pre [.keep [7, 6, 5, 0]] (.loop iPropsOk_l0))))
  (.seq (.r [.mv 30 (.t 0),
    .len 31 (.t 30),
    .bin 32 .leq .num (.t 31) (.c (.d (.i .i64 4))),
    .mv 2 (.t 32),
    .keep [2]])
  (.ret)))⟩
def icopyPath_m : Fn := ⟨1, [.t 2], false,
  .seq (.r [.mv 2 (.c (.nil .str)),
    .opn 2 2 false,
    .kill [2],
    .drop [66]])
  (.seq (.r [.mv 3 (.t 0),
    .app 4 .str false 16 (.c (.nil .str)) (.t 3),
    .mv 2 (.t 4),
    .ren 68 66,
    .keep [2],
    .drop [68]])
  (.ret))⟩
def iCovers_m : Fn := ⟨2, [.t 4], false,
  .seq (.r [.bx 2 TLock true (.t 0),
    .mv 4 (.c (.d (.b false))),
    .kill [0, 4]])
  (.seq (.r [.fa 5 (.t 2) 1,
    .ld 6 1 false (.t 5),
    .mv 7 (.t 1),
    .call 8 true [] (.c (.clo iSamePath [])) [(.t 6), (.t 7)],
    .mv 9 (.t 8),
    .gd 9 false (some 10) (.fa 10 (.t 2) 2),
    .gd 9 false (some 11) (.ld 11 1 false (.t 10)),
    .kill [5, 6, 7, 8, 10],
    .gd 9 false (some 12) (.mv 12 (.t 11)),
    .gd 12 true (some 13) (.mv 13 (.t 1)),
    .gd 12 true (some 14) (.fa 14 (.t 2) 1),
    .gd 12 true (some 15) (.ld 15 1 false (.t 14)),
    .gd 12 true (some 16) (.call 16 true [] (.c (.clo iUnder [])) [(.t 13), (.t 15)]),
    .kill [1, 2, 11, 13, 14, 15],
    .gd 9 false (some 17) (.pick 17 (.t 12) (.t 16) (.c (.d (.b false)))),
    .pick 18 (.t 9) (.c (.d (.b true))) (.t 17),
    .mv 4 (.t 18),
    .keep [4],
    .drop [66]])
  (.ret))⟩
def iNumText_m : Fn := ⟨1, [.t 2], false,
  .seq (.r [.mv 2 (.c (.d (.s []))),
    .kill [2]])
  (.seq (.r [.mv 3 (.t 0),
    .mm 4 true (.t 3) (.c (.d (.i .i64 0))),
    .call 5 true [] (.c (.clo x_strconv_Itoa [])) [(.t 4)],
    .mv 2 (.t 5),
    .keep [2]])
  (.ret))⟩
/-- live: [0, 1, 12, 13]; objects: [] -/
def iSamePath_l0 : C :=
  .seq (.r [.bin 14 .lss .num (.t 13) (.t 12)])
    (.seq (.cond (.t 14)
      (.pre [.kill [14]] (.skip))
      (.pre [.keep []] (.ex 0)))
    (.seq (.blk 1 (.seq (.r [.mv 15 (.t 13),
      .mv 5 (.t 15),
      .kill [15]])
    (.seq (.post (.r [.mv 16 (.t 0),
      .mv 17 (.t 5),
      .ia 18 1 (.t 16) (.t 17),
      .ld 19 1 false (.t 18),
      .mv 20 (.t 1),
      .mv 21 (.t 5),
      .ia 22 1 (.t 20) (.t 21),
      .ld 23 1 false (.t 22),
      .bin 24 .neq .num (.t 19) (.t 23)]) [.keep [24, 13, 12, 1, 0]])
    (.cond (.t 24)
      (.pre [.keep []] (.seq (.r [.mv 4 (.c (.d (.b false)))])
      (.ret)))
      (.pre [.kill [24]] (.skip))))))
    (.r [.bin 25 .add .num (.t 13) (.c (.d (.i .i64 1))),
      .mv 13 (.t 25),
      .kill [25]])))
def iSamePath_m : Fn := ⟨2, [.t 4], false,
  .seq (.r [.mv 4 (.c (.d (.b false))),
    .kill [4]])
  (.seq (.seq (.r [.mv 6 (.t 0),
    .len 7 (.t 6),
    .mv 8 (.t 1),
    .len 9 (.t 8),
    .bin 10 .neq .num (.t 7) (.t 9),
    .keep [10, 1, 0]])
  (.cond (.t 10)
    (.pre [.keep []] (.seq (.r [.mv 4 (.c (.d (.b false)))])
    (.ret)))
    (.pre [.kill [10]] (.skip))))
  (.seq (.seq (.r [.mv 11 (.t 0),
    .len 12 (.t 11),
    .mv 13 (.c (.d (.i .i64 0))),
    .kill [11]])
  (.blk 0 (.pre [.keep [13, 12, 1, 0]] (.loop iSamePath_l0))))
  (.seq (.r [.mv 4 (.c (.d (.b true)))])
  (.ret))))⟩
def weqProp_m : Fn := ⟨2, [.t 4], false,
  .seq (.r [.bx 2 TProp false (.t 0),
    .bx 3 TProp false (.t 1),
    .mv 4 (.c (.d (.b false))),
    .keep [3, 2]])
  (.seq (.seq (.r [.fa 5 (.t 2) 0,
    .ld 6 1 false (.t 5),
    .fa 7 (.t 3) 0,
    .ld 8 1 false (.t 7),
    .bin 9 .neq .num (.t 6) (.t 8),
    .keep [9, 3, 2]])
  (.cond (.t 9)
    (.pre [.keep [], .drop [66, 67]] (.seq (.r [.mv 4 (.c (.d (.b false)))])
    (.ret)))
    (.pre [.kill [9]] (.skip))))
  (.seq (.seq (.r [.fa 10 (.t 2) 1,
    .ld 11 1 false (.t 10),
    .fa 12 (.t 3) 1,
    .ld 13 1 false (.t 12),
    .bin 14 .neq .num (.t 11) (.t 13),
    .keep [14, 3, 2]])
  (.cond (.t 14)
    (.pre [.keep [], .drop [66, 67]] (.seq (.r [.mv 4 (.c (.d (.b false)))])
    (.ret)))
    (.pre [.kill [14]] (.skip))))
  (.seq (.seq (.r [.fa 15 (.t 2) 2,
    .ld 16 1 false (.t 15),
    .fa 17 (.t 3) 2,
    .ld 18 1 false (.t 17),
    .bin 19 .neq .num (.t 16) (.t 18),
    .keep [19],
    .drop [66, 67]])
  (.cond (.t 19)
    (.pre [.keep []] (.seq (.r [.mv 4 (.c (.d (.b false)))])
    (.ret)))
    (.pre [.keep []] (.skip))))
  (.seq (.r [.mv 4 (.c (.d (.b true)))])
  (.ret)))))⟩
/-- live: [0, 3]; objects: [] -/
def sPlain_l0 : C :=
  .seq (.seq (.r [.mv 4 (.t 3),
      .mv 5 (.t 0),
      .lns 6 (.t 5),
      .bin 7 .lss .num (.t 4) (.t 6),
      .kill [4, 5, 6]])
    (.cond (.t 7)
      (.pre [.kill [7]] (.skip))
      (.pre [.keep []] (.ex 0))))
    (.seq (.blk 1 (.seq (.r [.mv 10 (.t 0),
      .mv 11 (.t 3),
      .ix 12 (.t 10) (.t 11),
      .cvi 13 .i64 (.t 12),
      .call 14 true [] (.c (.clo sl1In [])) [(.t 13), (.c (.d (.i .i64 32))), (.c (.d (.i .i64 126)))],
      .not 15 (.t 14),
      .keep [15, 3, 0]])
    (.cond (.t 15)
      (.pre [.keep []] (.seq (.r [.mv 2 (.c (.d (.b false)))])
      (.ret)))
      (.pre [.kill [15]] (.skip)))))
    (.r [.mv 8 (.t 3),
      .bin 9 .add .num (.t 8) (.c (.d (.i .i64 1))),
      .mv 3 (.t 9),
      .kill [8, 9]]))
def sPlain_m : Fn := ⟨1, [.t 2], false,
  .seq (.r [.mv 2 (.c (.d (.b false))),
    .kill [2]])
  (.seq (.seq (.r [.mv 3 (.c (.d (.i .i64 0)))])
  (.blk 0 (.pre [.keep [3, 0]] (.loop sPlain_l0))))
  (.seq (.r [.mv 2 (.c (.d (.b true)))])
  (.ret)))⟩
/-- live: [0, 3]; objects: [] -/
def sSmallName_l0 : C :=
  .seq (.seq (.r [.mv 4 (.t 3),
      .mv 5 (.t 0),
      .lns 6 (.t 5),
      .bin 7 .lss .num (.t 4) (.t 6),
      .kill [4, 5, 6]])
    (.cond (.t 7)
      (.pre [.kill [7]] (.skip))
      (.pre [.keep [0]] (.ex 0))))
    (.seq (.blk 1 (.seq (.r [.mv 10 (.t 0),
      .mv 11 (.t 3),
      .ix 12 (.t 10) (.t 11),
      .call 13 true [] (.c (.clo sl1Small [])) [(.t 12)],
      .not 14 (.t 13),
      .mv 15 (.t 14),
      .kill [10, 11, 12, 13, 14],
      .gd 15 true (some 16) (.mv 16 (.t 3)),
      .gd 15 true (some 17) (.bin 17 .eql .num (.t 16) (.c (.d (.i .i64 0)))),
      .gd 15 true (some 18) (.mv 18 (.t 17)),
      .gd 18 false (some 19) (.mv 19 (.t 0)),
      .gd 18 false (some 20) (.mv 20 (.t 3)),
      .gd 18 false (some 21) (.ix 21 (.t 19) (.t 20)),
      .gd 18 false (some 22) (.call 22 true [] (.c (.clo sl1Digit [])) [(.t 21)]),
      .kill [16, 17, 19, 20, 21],
      .gd 18 false (some 23) (.not 23 (.t 22)),
      .gd 18 false (some 24) (.mv 24 (.t 23)),
      .gd 24 true (some 25) (.mv 25 (.t 0)),
      .gd 24 true (some 26) (.mv 26 (.t 3)),
      .gd 24 true (some 27) (.ix 27 (.t 25) (.t 26)),
      .gd 24 true (some 28) (.bin 28 .neq .num (.t 27) (.c (.d (.u 45)))),
      .kill [22, 23, 25, 26, 27],
      .gd 18 false (some 29) (.pick 29 (.t 24) (.t 28) (.c (.d (.b false)))),
      .gd 15 true (some 30) (.pick 30 (.t 18) (.c (.d (.b true))) (.t 29)),
      .pick 31 (.t 15) (.t 30) (.c (.d (.b false))),
      .keep [31, 3, 0]])
    (.cond (.t 31)
      (.pre [.keep []] (.seq (.r [.mv 2 (.c (.d (.b false)))])
      (.ret)))
      (.pre [.kill [31]] (.skip)))))
    (.r [.mv 8 (.t 3),
      .bin 9 .add .num (.t 8) (.c (.d (.i .i64 1))),
      .mv 3 (.t 9),
      .kill [8, 9]]))
def sSmallName_m : Fn := ⟨1, [.t 2], false,
  .seq (.r [.mv 2 (.c (.d (.b false))),
    .kill [2]])
  (.seq (.seq (.r [.mv 3 (.c (.d (.i .i64 0)))])
  (.blk 0 (.pre [.keep [3, 0]] (.loop sSmallName_l0))))
  (.seq (.r [.mv 32 (.t 0),
    .lns 33 (.t 32),
    .call 34 true [] (.c (.clo sl1In [])) [(.t 33), (.c (.d (.i .i64 1))), (.c (.d (.i .i64 20)))],
    .mv 2 (.t 34),
    .keep [2]])
  (.ret)))⟩
def sUnder_m : Fn := ⟨2, [.t 4], false,
  .seq (.r [.mv 4 (.c (.d (.b false))),
    .kill [4]])
  (.seq (.r [.mv 5 (.t 0),
    .len 6 (.t 5),
    .mv 7 (.t 1),
    .len 8 (.t 7),
    .bin 9 .gtr .num (.t 6) (.t 8),
    .mv 10 (.t 9),
    .kill [5, 6, 7, 8, 9],
    .gd 10 true (some 11) (.mv 11 (.t 0)),
    .gd 10 true (some 12) (.mv 12 (.t 1)),
    .gd 10 true (some 13) (.len 13 (.t 12)),
    .gd 10 true (some 14) (.slc 14 1 (.t 11) none (some (.t 13))),
    .gd 10 true (some 15) (.mv 15 (.t 1)),
    .kill [0, 1, 11, 12, 13],
    .gd 10 true (some 16) (.call 16 true [] (.c (.clo sSamePath [])) [(.t 14), (.t 15)]),
    .pick 17 (.t 10) (.t 16) (.c (.d (.b false))),
    .mv 4 (.t 17),
    .keep [4]])
  (.ret))⟩
def iNameOk_m : Fn := ⟨1, [.t 2], false,
  .seq (.r [.mv 2 (.c (.d (.b false))),
    .kill [2]])
  (.seq (.r [.mv 3 (.t 0),
    .lns 4 (.t 3),
    .call 5 true [] (.c (.clo iin [])) [(.t 4), (.c (.d (.i .i64 1))), (.c (.d (.i .i64 8)))],
    .mv 6 (.t 5),
    .gd 6 true (some 7) (.mv 7 (.t 0)),
    .gd 6 true (some 8) (.call 8 true [] (.c (.clo iPlain [])) [(.t 7)]),
    .pick 9 (.t 6) (.t 8) (.c (.d (.b false))),
    .kill [3, 4, 5, 6, 7, 8],
    .mv 10 (.t 9),
    .gd 10 true (some 11) (.mv 11 (.t 0)),
    .gd 10 true (some 12) (.call 12 true [] (.c (.clo x_strings_Contains [])) [(.t 11), (.c (.d (.s [47])))]),
    .gd 10 true (some 13) (.not 13 (.t 12)),
    .pick 14 (.t 10) (.t 13) (.c (.d (.b false))),
    .kill [9, 10, 11, 12, 13],
    .mv 15 (.t 14),
    .gd 15 true (some 16) (.mv 16 (.t 0)),
    .gd 15 true (some 17) (.bin 17 .neq .num (.t 16) (.c (.d (.s [46])))),
    .pick 18 (.t 15) (.t 17) (.c (.d (.b false))),
    .mv 19 (.t 18),
    .kill [14, 15, 16, 17, 18],
    .gd 19 true (some 20) (.mv 20 (.t 0)),
    .gd 19 true (some 21) (.bin 21 .neq .num (.t 20) (.c (.d (.s [46, 46])))),
    .pick 22 (.t 19) (.t 21) (.c (.d (.b false))),
    .mv 2 (.t 22),
    .keep [2]])
  (.ret))⟩
def ipropOk_m : Fn := ⟨1, [.t 2], false,
  .seq (.r [.bx 1 TProp false (.t 0),
    .mv 2 (.c (.d (.b false))),
    .keep [1]])
  (.seq (.r [.fa 3 (.t 1) 0,
    .ld 4 1 false (.t 3),
    .lns 5 (.t 4),
    .bin 6 .leq .num (.t 5) (.c (.d (.i .i64 20))),
    .mv 7 (.t 6),
    .gd 7 true (some 8) (.fa 8 (.t 1) 0),
    .gd 7 true (some 9) (.ld 9 1 false (.t 8)),
    .kill [3, 4, 5, 6, 8],
    .gd 7 true (some 10) (.call 10 true [] (.c (.clo iPlain [])) [(.t 9)]),
    .pick 11 (.t 7) (.t 10) (.c (.d (.b false))),
    .mv 12 (.t 11),
    .gd 12 true (some 13) (.fa 13 (.t 1) 1),
    .gd 12 true (some 14) (.ld 14 1 false (.t 13)),
    .kill [7, 9, 10, 11, 13],
    .gd 12 true (some 15) (.call 15 true [] (.c (.clo iSmallName [])) [(.t 14)]),
    .pick 16 (.t 12) (.t 15) (.c (.d (.b false))),
    .mv 17 (.t 16),
    .gd 17 true (some 18) (.fa 18 (.t 1) 2),
    .gd 17 true (some 19) (.ld 19 1 false (.t 18)),
    .kill [12, 14, 15, 16, 18],
    .gd 17 true (some 20) (.lns 20 (.t 19)),
    .gd 17 true (some 21) (.bin 21 .leq .num (.t 20) (.c (.d (.i .i64 20)))),
    .pick 22 (.t 17) (.t 21) (.c (.d (.b false))),
    .mv 23 (.t 22),
    .kill [17, 19, 20, 21, 22],
    .gd 23 true (some 24) (.fa 24 (.t 1) 2),
    .gd 23 true (some 25) (.ld 25 1 false (.t 24)),
    .gd 23 true (some 26) (.call 26 true [] (.c (.clo iPlain [])) [(.t 25)]),
    .pick 27 (.t 23) (.t 26) (.c (.d (.b false))),
    .kill [1, 23, 24, 25, 26],
    .mv 2 (.t 27),
    .keep [2],
    .drop [65]])
  (.ret))⟩
def ilessProp_m : Fn := ⟨2, [.t 4], false,
  .seq (.r [.bx 2 TProp false (.t 0),
    .bx 3 TProp false (.t 1),
    .mv 4 (.c (.d (.b false))),
    .keep [3, 2]])
  (.seq (.r [.fa 5 (.t 2) 0,
    .ld 6 1 false (.t 5),
    .fa 7 (.t 3) 0,
    .ld 8 1 false (.t 7),
    .bin 9 .lss .num (.t 6) (.t 8),
    .mv 10 (.t 9),
    .kill [5, 6, 7, 8, 9],
    .gd 10 false (some 11) (.fa 11 (.t 2) 0),
    .gd 10 false (some 12) (.ld 12 1 false (.t 11)),
    .gd 10 false (some 13) (.fa 13 (.t 3) 0),
    .gd 10 false (some 14) (.ld 14 1 false (.t 13)),
    .gd 10 false (some 15) (.bin 15 .eql .num (.t 12) (.t 14)),
    .gd 10 false (some 16) (.mv 16 (.t 15)),
    .kill [11, 12, 13, 14, 15],
    .gd 16 true (some 17) (.fa 17 (.t 2) 1),
    .gd 16 true (some 18) (.ld 18 1 false (.t 17)),
    .gd 16 true (some 19) (.fa 19 (.t 3) 1),
    .gd 16 true (some 20) (.ld 20 1 false (.t 19)),
    .gd 16 true (some 21) (.bin 21 .lss .num (.t 18) (.t 20)),
    .kill [2, 3, 17, 18, 19, 20],
    .gd 10 false (some 22) (.pick 22 (.t 16) (.t 21) (.c (.d (.b false)))),
    .pick 23 (.t 10) (.c (.d (.b true))) (.t 22),
    .mv 4 (.t 23),
    .keep [4],
    .drop [66, 67]])
  (.ret))⟩
def iUnder_m : Fn := ⟨2, [.t 4], false,
  .seq (.r [.mv 4 (.c (.d (.b false))),
    .kill [4]])
  (.seq (.r [.mv 5 (.t 0),
    .len 6 (.t 5),
    .mv 7 (.t 1),
    .len 8 (.t 7),
    .bin 9 .gtr .num (.t 6) (.t 8),
    .mv 10 (.t 9),
    .kill [5, 6, 7, 8, 9],
    .gd 10 true (some 11) (.mv 11 (.t 0)),
    .gd 10 true (some 12) (.mv 12 (.t 1)),
    .gd 10 true (some 13) (.len 13 (.t 12)),
    .gd 10 true (some 14) (.slc 14 1 (.t 11) none (some (.t 13))),
    .gd 10 true (some 15) (.mv 15 (.t 1)),
    .kill [0, 1, 11, 12, 13],
    .gd 10 true (some 16) (.call 16 true [] (.c (.clo iSamePath [])) [(.t 14), (.t 15)]),
    .pick 17 (.t 10) (.t 16) (.c (.d (.b false))),
    .mv 4 (.t 17),
    .keep [4]])
  (.ret))⟩
def sl1Small_m : Fn := ⟨1, [.t 2], false,
  .seq (.r [.mv 2 (.c (.d (.b false))),
    .kill [2]])
  (.seq (.r [.mv 3 (.t 0),
    .cvi 4 .i64 (.t 3),
    .call 5 true [] (.c (.clo sl1In [])) [(.t 4), (.c (.d (.i .i64 97))), (.c (.d (.i .i64 122)))],
    .mv 2 (.t 5),
    .keep [2]])
  (.ret))⟩
def sl1Digit_m : Fn := ⟨1, [.t 2], false,
  .seq (.r [.mv 2 (.c (.d (.b false))),
    .kill [2]])
  (.seq (.r [.mv 3 (.t 0),
    .cvi 4 .i64 (.t 3),
    .call 5 true [] (.c (.clo sl1In [])) [(.t 4), (.c (.d (.i .i64 48))), (.c (.d (.i .i64 57)))],
    .mv 2 (.t 5),
    .keep [2]])
  (.ret))⟩
/-- live: [0, 3]; objects: [] -/
def iPlain_l0 : C :=
  .seq (.seq (.r [.mv 4 (.t 3),
      .mv 5 (.t 0),
      .lns 6 (.t 5),
      .bin 7 .lss .num (.t 4) (.t 6),
      .kill [4, 5, 6]])
    (.cond (.t 7)
      (.pre [.kill [7]] (.skip))
      (.pre [.keep []] (.ex 0))))
    (.seq (.blk 1 (.seq (.r [.mv 10 (.t 0),
      .mv 11 (.t 3),
      .ix 12 (.t 10) (.t 11),
      .call 13 true [] (.c (.clo iisPlain [])) [(.t 12)],
      .not 14 (.t 13),
      .keep [14, 3, 0]])
    (.cond (.t 14)
      (.pre [.keep []] (.seq (.r [.mv 2 (.c (.d (.b false)))])
      (.ret)))
      (.pre [.kill [14]] (.skip)))))
    (.r [.mv 8 (.t 3),
      .bin 9 .add .num (.t 8) (.c (.d (.i .i64 1))),
      .mv 3 (.t 9),
      .kill [8, 9]]))
def iPlain_m : Fn := ⟨1, [.t 2], false,
  .seq (.r [.mv 2 (.c (.d (.b false))),
    .kill [2]])
  (.seq (.seq (.r [.mv 3 (.c (.d (.i .i64 0)))])
  (.blk 0 (.pre [.keep [3, 0]] (.loop iPlain_l0))))
  (.seq (.r [.mv 2 (.c (.d (.b true)))])
  (.ret)))⟩
/-- live: [0, 3]; objects: [] -/
def iSmallName_l0 : C :=
  .seq (.seq (.r [.mv 4 (.t 3),
      .mv 5 (.t 0),
      .lns 6 (.t 5),
      .bin 7 .lss .num (.t 4) (.t 6),
      .kill [4, 5, 6]])
    (.cond (.t 7)
      (.pre [.kill [7]] (.skip))
      (.pre [.keep [0]] (.ex 0))))
    (.seq (.blk 1 (.seq (.r [.mv 10 (.t 0),
      .mv 11 (.t 3),
      .ix 12 (.t 10) (.t 11),
      .call 13 true [] (.c (.clo iisSmall [])) [(.t 12)],
      .not 14 (.t 13),
      .mv 15 (.t 14),
      .kill [10, 11, 12, 13, 14],
      .gd 15 true (some 16) (.mv 16 (.t 3)),
      .gd 15 true (some 17) (.bin 17 .eql .num (.t 16) (.c (.d (.i .i64 0)))),
      .gd 15 true (some 18) (.mv 18 (.t 17)),
      .gd 18 false (some 19) (.mv 19 (.t 0)),
      .gd 18 false (some 20) (.mv 20 (.t 3)),
      .gd 18 false (some 21) (.ix 21 (.t 19) (.t 20)),
      .gd 18 false (some 22) (.call 22 true [] (.c (.clo iisDigit [])) [(.t 21)]),
      .kill [16, 17, 19, 20, 21],
      .gd 18 false (some 23) (.not 23 (.t 22)),
      .gd 18 false (some 24) (.mv 24 (.t 23)),
      .gd 24 true (some 25) (.mv 25 (.t 0)),
      .gd 24 true (some 26) (.mv 26 (.t 3)),
      .gd 24 true (some 27) (.ix 27 (.t 25) (.t 26)),
      .gd 24 true (some 28) (.bin 28 .neq .num (.t 27) (.c (.d (.u 45)))),
      .kill [22, 23, 25, 26, 27],
      .gd 18 false (some 29) (.pick 29 (.t 24) (.t 28) (.c (.d (.b false)))),
      .gd 15 true (some 30) (.pick 30 (.t 18) (.c (.d (.b true))) (.t 29)),
      .pick 31 (.t 15) (.t 30) (.c (.d (.b false))),
      .keep [31, 3, 0]])
    (.cond (.t 31)
      (.pre [.keep []] (.seq (.r [.mv 2 (.c (.d (.b false)))])
      (.ret)))
      (.pre [.kill [31]] (.skip)))))
    (.r [.mv 8 (.t 3),
      .bin 9 .add .num (.t 8) (.c (.d (.i .i64 1))),
      .mv 3 (.t 9),
      .kill [8, 9]]))
def iSmallName_m : Fn := ⟨1, [.t 2], false,
  .seq (.r [.mv 2 (.c (.d (.b false))),
    .kill [2]])
  (.seq (.seq (.r [.mv 3 (.c (.d (.i .i64 0)))])
  (.blk 0 (.pre [.keep [3, 0]] (.loop iSmallName_l0))))
  (.seq (.r [.mv 32 (.t 0),
    .lns 33 (.t 32),
    .call 34 true [] (.c (.clo iin [])) [(.t 33), (.c (.d (.i .i64 1))), (.c (.d (.i .i64 20)))],
    .mv 2 (.t 34),
    .keep [2]])
  (.ret)))⟩
def iisPlain_m : Fn := ⟨1, [.t 2], false,
  .seq (.r [.mv 2 (.c (.d (.b false))),
    .kill [2]])
  (.seq (.r [.mv 3 (.t 0),
    .bin 4 .geq .num (.t 3) (.c (.d (.u 32))),
    .mv 5 (.t 4),
    .gd 5 true (some 6) (.mv 6 (.t 0)),
    .gd 5 true (some 7) (.bin 7 .leq .num (.t 6) (.c (.d (.u 126)))),
    .pick 8 (.t 5) (.t 7) (.c (.d (.b false))),
    .kill [0, 3, 4, 5, 6, 7],
    .mv 2 (.t 8),
    .keep [2]])
  (.ret))⟩
def iisSmall_m : Fn := ⟨1, [.t 2], false,
  .seq (.r [.mv 2 (.c (.d (.b false))),
    .kill [2]])
  (.seq (.r [.mv 3 (.t 0),
    .bin 4 .geq .num (.t 3) (.c (.d (.u 97))),
    .mv 5 (.t 4),
    .gd 5 true (some 6) (.mv 6 (.t 0)),
    .gd 5 true (some 7) (.bin 7 .leq .num (.t 6) (.c (.d (.u 122)))),
    .pick 8 (.t 5) (.t 7) (.c (.d (.b false))),
    .kill [0, 3, 4, 5, 6, 7],
    .mv 2 (.t 8),
    .keep [2]])
  (.ret))⟩
def iisDigit_m : Fn := ⟨1, [.t 2], false,
  .seq (.r [.mv 2 (.c (.d (.b false))),
    .kill [2]])
  (.seq (.r [.mv 3 (.t 0),
    .bin 4 .geq .num (.t 3) (.c (.d (.u 48))),
    .mv 5 (.t 4),
    .gd 5 true (some 6) (.mv 6 (.t 0)),
    .gd 5 true (some 7) (.bin 7 .leq .num (.t 6) (.c (.d (.u 57)))),
    .pick 8 (.t 5) (.t 7) (.c (.d (.b false))),
    .kill [0, 3, 4, 5, 6, 7],
    .mv 2 (.t 8),
    .keep [2]])
  (.ret))⟩
def tabL : List (Nat × Fn) := [(wFnExactSafe, wFnExactSafe_m), (wszSrv, wszSrv_m), (sSafe, sSafe_m), (wtoSrv, wtoSrv_m), (iSafe, iSafe_m), (weqSrv, weqSrv_m), (wszResS, wszResS_m), (wszLockS, wszLockS_m), (wszIntS, wszIntS_m), (sSrvOk, sSrvOk_m), (sHeld, sHeld_m), (wtoResS, wtoResS_m), (wtoLockS, wtoLockS_m), (wtoIntS, wtoIntS_m), (iSrvOk, iSrvOk_m), (iHeld, iHeld_m), (weqResS, weqResS_m), (weqLockS, weqLockS_m), (weqIntS, weqIntS_m), (wszRes, wszRes_m), (wszLock, wszLock_m), (sl1In, sl1In_m), (sl13Has, sl13Has_m), (sTreeOk, sTreeOk_m), (sLocksOk, sLocksOk_m), (sTagAt, sTagAt_m), (wtoRes, wtoRes_m), (wtoLock, wtoLock_m), (iTreeOk, iTreeOk_m), (iLocksOk, iLocksOk_m), (iin, iin_m), (iusedOk, iusedOk_m), (ihasInt, ihasInt_m), (iTagAt, iTagAt_m), (weqRes, weqRes_m), (weqLock, weqLock_m), (wszStringS, wszStringS_m), (wszPropS, wszPropS_m), (sPathOk, sPathOk_m), (sPropsOk, sPropsOk_m), (sLessPath, sLessPath_m), (sIsColl, sIsColl_m), (sAbove, sAbove_m), (sLockOk, sLockOk_m), (sLockClash, sLockClash_m), (sTagText, sTagText_m), (sFindRes, sFindRes_m), (wtoStringS, wtoStringS_m), (wtoPropS, wtoPropS_m), (iresOk, iresOk_m), (iLessPath, iLessPath_m), (iIsColl, iIsColl_m), (iAbove, iAbove_m), (iLockOk, iLockOk_m), (iLockClash, iLockClash_m), (iTagText, iTagText_m), (iFindRes, iFindRes_m), (weqStringS, weqStringS_m), (weqPropS, weqPropS_m), (wszProp, wszProp_m), (sNameOk, sNameOk_m), (sl10Prop, sl10Prop_m), (sl10LessProp, sl10LessProp_m), (sCovers, sCovers_m), (sNumText, sNumText_m), (sSamePath, sSamePath_m), (wtoProp, wtoProp_m), (iPathOk, iPathOk_m), (iPropsOk, iPropsOk_m), (icopyPath, icopyPath_m), (iCovers, iCovers_m), (iNumText, iNumText_m), (iSamePath, iSamePath_m), (weqProp, weqProp_m), (sPlain, sPlain_m), (sSmallName, sSmallName_m), (sUnder, sUnder_m), (iNameOk, iNameOk_m), (ipropOk, ipropOk_m), (ilessProp, ilessProp_m), (iUnder, iUnder_m), (sl1Small, sl1Small_m), (sl1Digit, sl1Digit_m), (iPlain, iPlain_m), (iSmallName, iSmallName_m), (iisPlain, iisPlain_m), (iisSmall, iisSmall_m), (iisDigit, iisDigit_m)]
end Go.Proofs.YtfklggpopffkjaaGreatDoorK
