import Derived.Test.YtmccpbabpnffcaaJ24
import Derived.Test.YtmccpbabpnffcaaProg
import Derived.KernelRfl
set_option linter.unusedVariables false
set_option linter.unusedSimpArgs false
namespace Go.Proofs.YtmccpbabpnffcaaK
open Go.RowKit
def wFnExactAskFor : Nat := 6
def weqReq : Nat := 12
def wszCli : Nat := 23
def wszStringS : Nat := 24
def sAskFor : Nat := 25
def wtoCli : Nat := 26
def wtoStringS : Nat := 27
def iAskFor : Nat := 28
def weqCli : Nat := 29
def weqStringS : Nat := 30
def wmarkCli : Nat := 31
def wmarkStringS : Nat := 32
def wmarkReq : Nat := 33
def wheldReq : Nat := 34
def weqHeadS : Nat := 54
def wszPageS : Nat := 81
def sPathText : Nat := 82
def sl21At : Nat := 83
def wtoPageS : Nat := 84
def iPathText : Nat := 85
def ipageAt : Nat := 86
def weqPageS : Nat := 87
def wmarkPageS : Nat := 88
def wmarkText : Nat := 89
def wmarkHeadS : Nat := 90
def wheldHeadS : Nat := 91
def weqHead : Nat := 108
def wszPage : Nat := 124
def sPathOk : Nat := 125
def sQuote : Nat := 126
def sSamePath : Nat := 111
def wtoPage : Nat := 127
def iPathOk : Nat := 128
def iQuote : Nat := 129
def iSamePath : Nat := 114
def weqPage : Nat := 131
def sNameOk : Nat := 134
def sl2Free : Nat := 135
def sl2Digit : Nat := 136
def iNameOk : Nat := 137
def iisLarge : Nat := 107
def iisSmall : Nat := 138
def iisDigit : Nat := 139
def sl1In : Nat := 66
def sPlain : Nat := 144
def sl1Large : Nat := 105
def sl1Small : Nat := 145
def sl1Digit : Nat := 146
def iin : Nat := 68
def iPlain : Nat := 147
def iisPlain : Nat := 152
def x_strings_Join : Nat := 130
def x_strings_IndexByte : Nat := 140
def x_strings_Contains : Nat := 148
abbrev TPage : T := .pr (.sl .str) (.pr .str .str)
abbrev TCli : T := .sl TPage
abbrev THead : T := .pr .str .str
abbrev TReq : T := .pr .str (.pr .str (.pr (.sl THead) .str))
def wFnExactAskFor_m : Fn := ⟨2, [.t 4], false,
  .seq (.r [.bx 2 TCli true (.t 0),
    .mv 4 (.c (.d (.b false))),
    .kill [0, 4]])
  (.seq (.r [.mv 5 (.c (.d (.i .i64 1048576)))])
  (.seq (.r [.ld 14 1 true (.t 2),
    .mv 15 (.t 5),
    .call 16 true [] (.c (.clo wszCli [])) [(.t 14), (.t 15)],
    .mv 5 (.t 16),
    .kill [14, 15, 16]])
  (.seq (.seq (.r [.mv 17 (.t 5),
    .bin 18 .lss .num (.t 17) (.c (.d (.i .i64 0))),
    .kill [17]])
  (.cond (.t 18)
    (.pre [.keep [], .drop [66]] (.seq (.r [.mv 4 (.c (.d (.b true)))])
    (.ret)))
    (.pre [.kill [18]] (.skip))))
  (.seq (.r [.mv 19 (.t 1),
    .mv 20 (.t 5),
    .call 21 true [] (.c (.clo wszStringS [])) [(.t 19), (.t 20)],
    .mv 5 (.t 21),
    .kill [19, 20, 21]])
  (.seq (.seq (.r [.mv 22 (.t 5),
    .bin 23 .lss .num (.t 22) (.c (.d (.i .i64 0))),
    .kill [5, 22]])
  (.cond (.t 23)
    (.pre [.keep [], .drop [66]] (.seq (.r [.mv 4 (.c (.d (.b true)))])
    (.ret)))
    (.pre [.kill [23]] (.skip))))
  (.seq (.r [.ld 24 1 true (.t 2),
    .call 25 true [] (.c (.clo wtoCli [])) [(.t 24)],
    .mv 26 (.t 1),
    .call 27 true [] (.c (.clo wtoStringS [])) [(.t 26)],
    .call 28 false [] (.c (.clo sAskFor [])) [(.t 25), (.t 27)],
    .al 6 TReq false,
    .st 4 (.t 6) (.t 28),
    .keep [6, 2, 1],
    .drop [29066]])
  (.seq (.r [.ld 29 1 true (.t 2),
    .call 30 false [] (.c (.clo wtoCli [])) [(.t 29)],
    .al 7 TCli false,
    .stl 1 (.t 7) (.t 30),
    .kill [29, 30]])
  (.seq (.r [.mv 31 (.t 1),
    .call 32 false [] (.c (.clo wtoStringS [])) [(.t 31)],
    .mv 8 (.t 32),
    .kill [31, 32]])
  (.seq (.r [.ld 33 1 true (.t 7),
    .mv 34 (.t 8),
    .call 35 false [] (.c (.clo iAskFor [])) [(.t 33), (.t 34)],
    .al 9 TReq false,
    .stl 4 (.t 9) (.t 35),
    .kill [33, 34, 35]])
  (.seq (.seq (.r [.ld 36 4 true (.t 9),
    .ld 37 4 true (.t 6),
    .call 38 true [] (.c (.clo weqReq [])) [(.t 36), (.t 37)],
    .not 39 (.t 38),
    .kill [36, 37, 38]])
  (.cond (.t 39)
    (.pre [.keep [], .drop [66, 70, 71, 73, 31064, 33064, 36066]] (.seq (.r [.mv 4 (.c (.d (.b false)))])
    (.ret)))
    (.pre [.kill [39]] (.skip))))
  (.seq (.seq (.post (.r [.ld 40 1 true (.t 7),
    .ld 41 1 true (.t 2),
    .call 42 true [] (.c (.clo wtoCli [])) [(.t 41)],
    .call 43 true [] (.c (.clo weqCli [])) [(.t 40), (.t 42)],
    .not 44 (.t 43)]) [.kill [40, 41, 42, 43]])
  (.cond (.t 44)
    (.pre [.keep [], .drop [66, 70, 71, 73, 31064, 33064, 36066]] (.seq (.r [.mv 4 (.c (.d (.b false)))])
    (.ret)))
    (.pre [.kill [44]] (.skip))))
  (.seq (.seq (.r [.mv 45 (.t 8),
    .mv 46 (.t 1),
    .call 47 true [] (.c (.clo wtoStringS [])) [(.t 46)],
    .call 48 true [] (.c (.clo weqStringS [])) [(.t 45), (.t 47)],
    .not 49 (.t 48),
    .kill [45, 46, 47, 48]])
  (.cond (.t 49)
    (.pre [.keep [], .drop [66, 70, 71, 73, 31064, 33064, 36066]] (.seq (.r [.mv 4 (.c (.d (.b false)))])
    (.ret)))
    (.pre [.kill [49]] (.skip))))
  (.seq (.r [.mv 10 (.c (.d (.i .i64 1)))])
  (.seq (.r [.ld 50 1 true (.t 7),
    .mv 51 (.t 10),
    .call 52 true [31064] (.c (.clo wmarkCli [])) [(.t 50), (.t 51)],
    .mv 10 (.t 52),
    .kill [7, 50, 51, 52],
    .drop [71, 31064]])
  (.seq (.r [.mv 53 (.t 8),
    .mv 54 (.t 10),
    .call 55 true [33064] (.c (.clo wmarkStringS [])) [(.t 53), (.t 54)],
    .mv 10 (.t 55),
    .kill [8, 53, 54, 55],
    .drop [33064]])
  (.seq (.seq (.r [.mv 56 (.t 10),
    .bin 57 .lss .num (.t 56) (.c (.d (.i .i64 0))),
    .mv 58 (.t 57),
    .gd 58 false (some 59) (.ld 59 4 true (.t 9)),
    .gd 58 false (some 60) (.ld 60 4 true (.t 6)),
    .gd 58 false (some 61) (.call 61 true [] (.c (.clo weqReq [])) [(.t 59), (.t 60)]),
    .kill [10, 56, 57, 59, 60],
    .gd 58 false (some 62) (.not 62 (.t 61)),
    .pick 63 (.t 58) (.c (.d (.b true))) (.t 62),
    .keep [63, 9, 6, 2, 1]])
  (.cond (.t 63)
    (.pre [.keep [], .drop [66, 70, 73, 36066]] (.seq (.r [.mv 4 (.c (.d (.b false)))])
    (.ret)))
    (.pre [.kill [63]] (.skip))))
  (.seq (.r [.mv 11 (.c (.d (.i .i64 1)))])
  (.seq (.r [.ld 64 4 true (.t 9),
    .mv 65 (.t 11),
    .call 66 true [36066] (.c (.clo wmarkReq [])) [(.t 64), (.t 65)],
    .mv 11 (.t 66),
    .kill [64, 65, 66]])
  (.seq (.r [.mv 12 (.c (.d (.i .i64 1)))])
  (.seq (.r [.ld 67 4 true (.t 9),
    .mv 68 (.t 12),
    .call 69 true [] (.c (.clo wheldReq [])) [(.t 67), (.t 68)],
    .mv 12 (.t 69),
    .kill [67, 68, 69]])
  (.seq (.seq (.r [.mv 70 (.t 12),
    .bin 71 .lss .num (.t 70) (.c (.d (.i .i64 0))),
    .kill [70]])
  (.cond (.t 71)
    (.pre [.keep [], .drop [66, 70, 73, 36066]] (.seq (.r [.mv 4 (.c (.d (.b false)))])
    (.ret)))
    (.pre [.kill [71]] (.skip))))
  (.seq (.seq (.r [.mv 72 (.t 12),
    .mv 73 (.t 11),
    .bin 74 .neq .num (.t 72) (.t 73),
    .kill [12, 72, 73]])
  (.cond (.t 74)
    (.pre [.keep [], .drop [66, 70, 73, 36066]] (.seq (.r [.mv 4 (.c (.d (.b false)))])
    (.ret)))
    (.pre [.kill [74]] (.skip))))
  (.seq (.r [.ld 75 1 true (.t 2),
    .call 76 true [] (.c (.clo wtoCli [])) [(.t 75)],
    .mv 77 (.t 1),
    .call 78 true [] (.c (.clo wtoStringS [])) [(.t 77)],
    .call 79 false [] (.c (.clo iAskFor [])) [(.t 76), (.t 78)],
    .kill [1, 2, 75, 76, 77, 78],
    .al 13 TReq false,
    .st 4 (.t 13) (.t 79),
    .keep [13, 11, 9, 6],
    .drop [66, 80066]])
  (.seq (.seq (.r [.ld 80 4 true (.t 13),
    .ld 81 4 true (.t 6),
    .call 82 true [] (.c (.clo weqReq [])) [(.t 80), (.t 81)],
    .not 83 (.t 82),
    .keep [83, 11, 9],
    .drop [70, 77]])
  (.cond (.t 83)
    (.pre [.keep [], .drop [73, 36066]] (.seq (.r [.mv 4 (.c (.d (.b false)))])
    (.ret)))
    (.pre [.kill [83]] (.skip))))
  (.seq (.r [.mv 12 (.c (.d (.i .i64 1)))])
  (.seq (.r [.ld 84 4 true (.t 9),
    .mv 85 (.t 12),
    .call 86 true [] (.c (.clo wheldReq [])) [(.t 84), (.t 85)],
    .mv 12 (.t 86),
    .keep [12, 11],
    .drop [73, 36066]])
  (.seq (.seq (.r [.mv 87 (.t 12),
    .bin 88 .lss .num (.t 87) (.c (.d (.i .i64 0))),
    .kill [87]])
  (.cond (.t 88)
    (.pre [.keep []] (.seq (.r [.mv 4 (.c (.d (.b false)))])
    (.ret)))
    (.pre [.kill [88]] (.skip))))
  (.seq (.seq (.r [.mv 89 (.t 12),
    .mv 90 (.t 11),
    .bin 91 .neq .num (.t 89) (.t 90),
    .keep [91]])
  (.cond (.t 91)
    (.pre [.keep []] (.seq (.r [.mv 4 (.c (.d (.b false)))])
    (.ret)))
    (.pre [.keep []] (.skip))))
  (.seq (.r [.mv 4 (.c (.d (.b true)))])
  (.ret))))))))))))))))))))))))))))))⟩
def weqReq_m : Fn := ⟨2, [.t 4], false,
  .seq (.r [.bx 2 TReq true (.t 0),
    .bx 3 TReq true (.t 1),
    .mv 4 (.c (.d (.b false))),
    .keep [3, 2]])
  (.seq (.seq (.r [.fa 5 (.t 2) 0,
    .ld 6 1 false (.t 5),
    .fa 7 (.t 3) 0,
    .ld 8 1 false (.t 7),
    .bin 9 .neq .num (.t 6) (.t 8),
    .keep [9, 3, 2]])
  (.cond (.t 9)
    (.pre [.keep [], .drop [66, 67]] (.seq (.r [.mv 4 (.c (.d (.b false)))])
    (.ret)))
    (.pre [.kill [9]] (.skip))))
  (.seq (.seq (.r [.fa 10 (.t 2) 1,
    .ld 11 1 false (.t 10),
    .fa 12 (.t 3) 1,
    .ld 13 1 false (.t 12),
    .bin 14 .neq .num (.t 11) (.t 13),
    .keep [14, 3, 2]])
  (.cond (.t 14)
    (.pre [.keep [], .drop [66, 67]] (.seq (.r [.mv 4 (.c (.d (.b false)))])
    (.ret)))
    (.pre [.kill [14]] (.skip))))
  (.seq (.seq (.r [.fa 15 (.t 2) 2,
    .ld 16 1 false (.t 15),
    .fa 17 (.t 3) 2,
    .ld 18 1 false (.t 17),
    .call 19 true [] (.c (.clo weqHeadS [])) [(.t 16), (.t 18)],
    .not 20 (.t 19),
    .keep [20, 3, 2]])
  (.cond (.t 20)
    (.pre [.keep [], .drop [66, 67]] (.seq (.r [.mv 4 (.c (.d (.b false)))])
    (.ret)))
    (.pre [.kill [20]] (.skip))))
  (.seq (.seq (.r [.fa 21 (.t 2) 3,
    .ld 22 1 false (.t 21),
    .fa 23 (.t 3) 3,
    .ld 24 1 false (.t 23),
    .bin 25 .neq .num (.t 22) (.t 24),
    .keep [25],
    .drop [66, 67]])
  (.cond (.t 25)
    (.pre [.keep []] (.seq (.r [.mv 4 (.c (.d (.b false)))])
    (.ret)))
    (.pre [.keep []] (.skip))))
  (.seq (.r [.mv 4 (.c (.d (.b true)))])
  (.ret))))))⟩
def wszCli_m : Fn := ⟨2, [.t 4], false,
  .seq (.r [.bx 2 TCli true (.t 0),
    .mv 4 (.c (.d (.i .i64 0))),
    .kill [0, 4]])
  (.seq (.r [.fa 5 (.t 2) 0,
    .ld 6 1 false (.t 5),
    .mv 7 (.t 1),
    .call 8 true [] (.c (.clo wszPageS [])) [(.t 6), (.t 7)],
    .kill [1, 2, 5, 6, 7],
    .mv 1 (.t 8),
    .keep [1],
    .drop [66]])
  (.seq (.seq (.r [.mv 9 (.t 1),
    .bin 10 .lss .num (.t 9) (.c (.d (.i .i64 0))),
    .kill [9]])
  (.cond (.t 10)
    (.pre [.keep []] (.seq (.r [.mv 4 (.c (.d (.i .i64 (-1))))])
    (.ret)))
    (.pre [.kill [10]] (.skip))))
  (.seq (.r [.mv 11 (.t 1),
    .mv 4 (.t 11),
    .keep [4]])
  (.ret))))⟩
/-- live: [0, 1, 5]; objects: [] -/
def wszStringS_l0 : C :=
  .seq (.seq (.r [.mv 12 (.t 5),
      .mv 13 (.t 0),
      .len 14 (.t 13),
      .bin 15 .lss .num (.t 12) (.t 14),
      .kill [12, 13, 14]])
    (.cond (.t 15)
      (.pre [.kill [15]] (.skip))
      (.pre [.keep [1]] (.ex 0))))
    (.seq (.blk 1 (.seq (.r [.mv 18 (.t 1),
      .mv 19 (.t 0),
      .mv 20 (.t 5),
      .ia 21 1 (.t 19) (.t 20),
      .ld 22 1 false (.t 21),
      .lns 23 (.t 22),
      .kill [1, 19, 20, 21, 22],
      .bin 24 .sub .num (.t 18) (.t 23),
      .mv 1 (.t 24),
      .keep [5, 1, 0]])
    (.seq (.r [.mv 25 (.t 1),
      .bin 26 .lss .num (.t 25) (.c (.d (.i .i64 0))),
      .kill [25]])
    (.cond (.t 26)
      (.pre [.keep []] (.seq (.r [.mv 4 (.c (.d (.i .i64 (-1))))])
      (.ret)))
      (.pre [.kill [26]] (.skip))))))
    (.r [.mv 16 (.t 5),
      .bin 17 .add .num (.t 16) (.c (.d (.i .i64 1))),
      .mv 5 (.t 17),
      .kill [16, 17]]))
def wszStringS_m : Fn := ⟨2, [.t 4], false,
  .seq (.r [.mv 4 (.c (.d (.i .i64 0))),
    .kill [4]])
  (.seq (.r [.mv 6 (.t 1),
    .mv 7 (.t 0),
    .len 8 (.t 7),
    .bin 9 .sub .num (.t 6) (.t 8),
    .mv 1 (.t 9),
    .keep [1, 0]])
  (.seq (.seq (.r [.mv 10 (.t 1),
    .bin 11 .lss .num (.t 10) (.c (.d (.i .i64 0))),
    .kill [10]])
  (.cond (.t 11)
    (.pre [.keep []] (.seq (.r [.mv 4 (.c (.d (.i .i64 (-1))))])
    (.ret)))
    (.pre [.kill [11]] (.skip))))
  (.seq (.seq (.r [.mv 5 (.c (.d (.i .i64 0)))])
  (.blk 0 (.pre [.keep [5, 1, 0]] (.loop wszStringS_l0))))
  (.seq (.r [.mv 27 (.t 1),
    .mv 4 (.t 27),
    .keep [4]])
  (.ret)))))⟩
def sAskFor_m : Fn := ⟨2, [.cell 4 4 true], false,
  .seq (.r [.bx 2 TCli true (.t 0),
    .al 4 TReq false,
    .kill [0]])
  (.seq (.r [.mv 7 (.t 1),
    .call 8 true [] (.c (.clo sPathText [])) [(.t 7)],
    .bd 9 [.d (.s []), .d (.s []), .nil THead, .d (.s [])] [(0, 1, (.c (.d (.s [71, 69, 84])))), (1, 1, (.t 8))],
    .al 5 TReq false,
    .st 4 (.t 5) (.t 9),
    .kill [7, 8, 9]])
  (.seq (.r [.ld 10 1 true (.t 2),
    .mv 11 (.t 1),
    .call 12 true [] (.c (.clo sl21At [])) [(.t 10), (.t 11)],
    .mv 6 (.t 12),
    .kill [1, 10, 11, 12]])
  (.seq (.seq (.r [.mv 13 (.t 6),
    .bin 14 .geq .num (.t 13) (.c (.d (.i .i64 0))),
    .kill [13]])
  (.cond (.t 14)
    (.pre [.kill [14]] (.r [.fa 15 (.t 2) 0,
      .ld 16 1 false (.t 15),
      .mv 17 (.t 6),
      .ia 18 3 (.t 16) (.t 17),
      .kill [2, 6, 15, 16, 17],
      .fa 19 (.t 18) 1,
      .ld 20 1 false (.t 19),
      .bd 21 [.d (.s []), .d (.s [])] [(0, 1, (.c (.d (.s [105, 102, 45, 110, 111, 110, 101, 45, 109, 97, 116, 99, 104])))), (1, 1, (.t 20))],
      .bs 22 THead false 1 [.d (.s []), .d (.s [])] [(0, (.t 21))],
      .fa 23 (.t 5) 2,
      .st 1 (.t 23) (.t 22),
      .keep [5, 4],
      .drop [66, 86]]))
    (.pre [.keep [5, 4], .drop [66]] (.skip))))
  (.seq (.r [.ldt 24 4 true (.t 5),
    .st 4 (.t 4) (.t 24),
    .keep [4],
    .drop [69, 25066]])
  (.ret)))))⟩
def wtoCli_m : Fn := ⟨1, [.cell 2 1 true], false,
  .seq (.r [.bx 1 TCli true (.t 0),
    .al 2 TCli false,
    .kill [0]])
  (.seq (.r [.al 3 TCli false])
  (.seq (.r [.fa 4 (.t 1) 0,
    .ld 5 1 false (.t 4),
    .call 6 false [] (.c (.clo wtoPageS [])) [(.t 5)],
    .fa 7 (.t 3) 0,
    .st 1 (.t 7) (.t 6),
    .keep [3, 2],
    .drop [65, 7064]])
  (.seq (.r [.ldt 8 1 true (.t 3),
    .st 1 (.t 2) (.t 8),
    .keep [2],
    .drop [67, 9064]])
  (.ret))))⟩
/-- live: [0, 3, 4]; objects: [71] -/
def wtoStringS_l0 : C :=
  .seq (.seq (.r [.mv 8 (.t 4),
      .mv 9 (.t 0),
      .len 10 (.t 9),
      .bin 11 .lss .num (.t 8) (.t 10),
      .kill [8, 9, 10]])
    (.cond (.t 11)
      (.pre [.kill [11]] (.skip))
      (.pre [.keep [3]] (.ex 0))))
    (.seq (.blk 1 (.r [.mv 14 (.t 3),
      .mv 15 (.t 4),
      .mv 16 (.t 0),
      .mv 17 (.t 4),
      .ia 18 1 (.t 16) (.t 17),
      .ld 19 1 false (.t 18),
      .ia 20 1 (.t 14) (.t 15),
      .kill [14, 15, 16, 17, 18],
      .st 1 (.t 20) (.t 19),
      .keep [4, 3, 0]]))
    (.r [.mv 12 (.t 4),
      .bin 13 .add .num (.t 12) (.c (.d (.i .i64 1))),
      .mv 4 (.t 13),
      .kill [12, 13]]))
def wtoStringS_m : Fn := ⟨1, [.t 2], false,
  .seq (.r [.mv 2 (.c (.nil .str)),
    .opn 2 2 false,
    .kill [2],
    .drop [66]])
  (.seq (.r [.mv 5 (.t 0),
    .len 6 (.t 5),
    .mk 7 .str 16 (.t 6),
    .mv 3 (.t 7),
    .keep [3, 0]])
  (.seq (.seq (.r [.mv 4 (.c (.d (.i .i64 0)))])
  (.blk 0 (.pre [.keep [4, 3, 0]] (.loop wtoStringS_l0))))
  (.seq (.r [.mv 21 (.t 3),
    .mv 2 (.t 21),
    .ren 71 66,
    .keep [2],
    .drop [71]])
  (.ret))))⟩
def iAskFor_m : Fn := ⟨2, [.cell 4 4 true], false,
  .seq (.r [.bx 2 TCli true (.t 0),
    .al 4 TReq false,
    .kill [0]])
  (.seq (.r [.mv 7 (.t 1),
    .call 8 true [] (.c (.clo iPathText [])) [(.t 7)],
    .bd 9 [.d (.s []), .d (.s []), .nil THead, .d (.s [])] [(0, 1, (.c (.d (.s [71, 69, 84])))), (1, 1, (.t 8))],
    .al 5 TReq false,
    .st 4 (.t 5) (.t 9),
    .kill [7, 8, 9]])
  (.seq (.seq (.r [.fa 10 (.t 2) 0,
    .ld 11 1 false (.t 10),
    .mv 12 (.t 1),
    .call 13 true [] (.c (.clo ipageAt [])) [(.t 11), (.t 12)],
    .mv 6 (.t 13),
    .keep [6, 5, 4, 2]])
  (.seq (.r [.mv 14 (.t 6),
    .bin 15 .geq .num (.t 14) (.c (.d (.i .i64 0))),
    .kill [14]])
  (.cond (.t 15)
    (.pre [.kill [15]] (.r [.fa 16 (.t 2) 0,
      .ld 17 1 false (.t 16),
      .mv 18 (.t 6),
      .ia 19 3 (.t 17) (.t 18),
      .kill [2, 6, 16, 17, 18],
      .fa 20 (.t 19) 1,
      .ld 21 1 false (.t 20),
      .bd 22 [.d (.s []), .d (.s [])] [(0, 1, (.c (.d (.s [105, 102, 45, 110, 111, 110, 101, 45, 109, 97, 116, 99, 104])))), (1, 1, (.t 21))],
      .bs 23 THead false 1 [.d (.s []), .d (.s [])] [(0, (.t 22))],
      .fa 24 (.t 5) 2,
      .st 1 (.t 24) (.t 23),
      .keep [5, 4],
      .drop [66, 87]]))
    (.pre [.keep [5, 4], .drop [66]] (.skip)))))
  (.seq (.r [.ldt 25 4 true (.t 5),
    .st 4 (.t 4) (.t 25),
    .keep [4],
    .drop [69, 26066]])
  (.ret))))⟩
def weqCli_m : Fn := ⟨2, [.t 4], false,
  .seq (.r [.bx 2 TCli true (.t 0),
    .bx 3 TCli true (.t 1),
    .mv 4 (.c (.d (.b false))),
    .keep [3, 2]])
  (.seq (.seq (.r [.fa 5 (.t 2) 0,
    .ld 6 1 false (.t 5),
    .fa 7 (.t 3) 0,
    .ld 8 1 false (.t 7),
    .call 9 true [] (.c (.clo weqPageS [])) [(.t 6), (.t 8)],
    .kill [2, 3, 5, 6, 7, 8],
    .not 10 (.t 9),
    .keep [10],
    .drop [66, 67]])
  (.cond (.t 10)
    (.pre [.keep []] (.seq (.r [.mv 4 (.c (.d (.b false)))])
    (.ret)))
    (.pre [.keep []] (.skip))))
  (.seq (.r [.mv 4 (.c (.d (.b true)))])
  (.ret)))⟩
/-- live: [0, 1, 5]; objects: [] -/
def weqStringS_l0 : C :=
  .seq (.seq (.r [.mv 11 (.t 5),
      .mv 12 (.t 0),
      .len 13 (.t 12),
      .bin 14 .lss .num (.t 11) (.t 13),
      .kill [11, 12, 13]])
    (.cond (.t 14)
      (.pre [.kill [14]] (.skip))
      (.pre [.keep []] (.ex 0))))
    (.seq (.blk 1 (.seq (.post (.r [.mv 17 (.t 0),
      .mv 18 (.t 5),
      .ia 19 1 (.t 17) (.t 18),
      .ld 20 1 false (.t 19),
      .mv 21 (.t 1),
      .mv 22 (.t 5),
      .ia 23 1 (.t 21) (.t 22),
      .ld 24 1 false (.t 23),
      .bin 25 .neq .num (.t 20) (.t 24)]) [.keep [25, 5, 1, 0]])
    (.cond (.t 25)
      (.pre [.keep []] (.seq (.r [.mv 4 (.c (.d (.b false)))])
      (.ret)))
      (.pre [.kill [25]] (.skip)))))
    (.r [.mv 15 (.t 5),
      .bin 16 .add .num (.t 15) (.c (.d (.i .i64 1))),
      .mv 5 (.t 16),
      .kill [15, 16]]))
def weqStringS_m : Fn := ⟨2, [.t 4], false,
  .seq (.r [.mv 4 (.c (.d (.b false))),
    .kill [4]])
  (.seq (.seq (.r [.mv 6 (.t 0),
    .len 7 (.t 6),
    .mv 8 (.t 1),
    .len 9 (.t 8),
    .bin 10 .neq .num (.t 7) (.t 9),
    .keep [10, 1, 0]])
  (.cond (.t 10)
    (.pre [.keep []] (.seq (.r [.mv 4 (.c (.d (.b false)))])
    (.ret)))
    (.pre [.kill [10]] (.skip))))
  (.seq (.seq (.r [.mv 5 (.c (.d (.i .i64 0)))])
  (.blk 0 (.pre [.keep [5, 1, 0]] (.loop weqStringS_l0))))
  (.seq (.r [.mv 4 (.c (.d (.b true)))])
  (.ret))))⟩
def wmarkCli_m : Fn := ⟨2, [.t 4], false,
  .seq (.r [.bxl 2 TCli (.t 0),
    .mv 4 (.c (.d (.i .i64 0))),
    .kill [0, 4]])
  (.seq (.r [.fa 5 (.t 2) 0,
    .ld 6 1 false (.t 5),
    .mv 7 (.t 1),
    .call 8 true [0] (.c (.clo wmarkPageS [])) [(.t 6), (.t 7)],
    .kill [1, 2, 5, 6, 7],
    .mv 1 (.t 8),
    .keep [1],
    .drop [66]])
  (.seq (.r [.mv 9 (.t 1),
    .mv 4 (.t 9),
    .keep [4]])
  (.ret)))⟩
/-- live: [0, 1, 5]; objects: [0] -/
def wmarkStringS_l0 : C :=
  .seq (.seq (.r [.mv 6 (.t 5),
      .mv 7 (.t 0),
      .len 8 (.t 7),
      .bin 9 .lss .num (.t 6) (.t 8),
      .kill [6, 7, 8]])
    (.cond (.t 9)
      (.pre [.kill [9]] (.skip))
      (.pre [.keep [1]] (.ex 0))))
    (.seq (.blk 1 (.seq (.r [.mv 12 (.t 0),
      .mv 13 (.t 5),
      .mv 14 (.t 1),
      .call 15 true [] (.c (.clo wmarkText [])) [(.t 14)],
      .ia 16 1 (.t 12) (.t 13),
      .st 1 (.t 16) (.t 15),
      .keep [5, 1, 0]])
    (.r [.mv 17 (.t 1),
      .bin 18 .add .num (.t 17) (.c (.d (.i .i64 1))),
      .mv 1 (.t 18),
      .kill [17, 18]])))
    (.r [.mv 10 (.t 5),
      .bin 11 .add .num (.t 10) (.c (.d (.i .i64 1))),
      .mv 5 (.t 11),
      .kill [10, 11]]))
def wmarkStringS_m : Fn := ⟨2, [.t 4], false,
  .seq (.r [.mv 4 (.c (.d (.i .i64 0))),
    .kill [4]])
  (.seq (.seq (.r [.mv 5 (.c (.d (.i .i64 0)))])
  (.blk 0 (.pre [.keep [5, 1, 0]] (.loop wmarkStringS_l0))))
  (.seq (.r [.mv 19 (.t 1),
    .mv 4 (.t 19),
    .keep [4]])
  (.ret)))⟩
def wmarkReq_m : Fn := ⟨2, [.t 4], false,
  .seq (.r [.bxl 2 TReq (.t 0),
    .mv 4 (.c (.d (.i .i64 0))),
    .kill [0, 4]])
  (.seq (.r [.fa 5 (.t 2) 2,
    .ld 6 1 false (.t 5),
    .mv 7 (.t 1),
    .call 8 true [0] (.c (.clo wmarkHeadS [])) [(.t 6), (.t 7)],
    .kill [1, 2, 5, 6, 7],
    .mv 1 (.t 8),
    .keep [1],
    .drop [66]])
  (.seq (.r [.mv 9 (.t 1),
    .mv 4 (.t 9),
    .keep [4]])
  (.ret)))⟩
def wheldReq_m : Fn := ⟨2, [.t 4], false,
  .seq (.r [.bx 2 TReq true (.t 0),
    .mv 4 (.c (.d (.i .i64 0))),
    .kill [0, 4]])
  (.seq (.r [.fa 5 (.t 2) 2,
    .ld 6 1 false (.t 5),
    .mv 7 (.t 1),
    .call 8 true [] (.c (.clo wheldHeadS [])) [(.t 6), (.t 7)],
    .kill [1, 2, 5, 6, 7],
    .mv 1 (.t 8),
    .keep [1],
    .drop [66]])
  (.seq (.seq (.r [.mv 9 (.t 1),
    .bin 10 .lss .num (.t 9) (.c (.d (.i .i64 0))),
    .kill [9]])
  (.cond (.t 10)
    (.pre [.keep []] (.seq (.r [.mv 4 (.c (.d (.i .i64 (-1))))])
    (.ret)))
    (.pre [.kill [10]] (.skip))))
  (.seq (.r [.mv 11 (.t 1),
    .mv 4 (.t 11),
    .keep [4]])
  (.ret))))⟩
/-- live: [0, 1, 5]; objects: [] -/
def weqHeadS_l0 : C :=
  .seq (.seq (.r [.mv 11 (.t 5),
      .mv 12 (.t 0),
      .len 13 (.t 12),
      .bin 14 .lss .num (.t 11) (.t 13),
      .kill [11, 12, 13]])
    (.cond (.t 14)
      (.pre [.kill [14]] (.skip))
      (.pre [.keep []] (.ex 0))))
    (.seq (.blk 1 (.seq (.post (.r [.mv 17 (.t 0),
      .mv 18 (.t 5),
      .ia 19 2 (.t 17) (.t 18),
      .ld 20 2 true (.t 19),
      .mv 21 (.t 1),
      .mv 22 (.t 5),
      .ia 23 2 (.t 21) (.t 22),
      .ld 24 2 true (.t 23),
      .call 25 true [] (.c (.clo weqHead [])) [(.t 20), (.t 24)],
      .not 26 (.t 25)]) [.keep [26, 5, 1, 0]])
    (.cond (.t 26)
      (.pre [.keep []] (.seq (.r [.mv 4 (.c (.d (.b false)))])
      (.ret)))
      (.pre [.kill [26]] (.skip)))))
    (.r [.mv 15 (.t 5),
      .bin 16 .add .num (.t 15) (.c (.d (.i .i64 1))),
      .mv 5 (.t 16),
      .kill [15, 16]]))
def weqHeadS_m : Fn := ⟨2, [.t 4], false,
  .seq (.r [.mv 4 (.c (.d (.b false))),
    .kill [4]])
  (.seq (.seq (.r [.mv 6 (.t 0),
    .len 7 (.t 6),
    .mv 8 (.t 1),
    .len 9 (.t 8),
    .bin 10 .neq .num (.t 7) (.t 9),
    .keep [10, 1, 0]])
  (.cond (.t 10)
    (.pre [.keep []] (.seq (.r [.mv 4 (.c (.d (.b false)))])
    (.ret)))
    (.pre [.kill [10]] (.skip))))
  (.seq (.seq (.r [.mv 5 (.c (.d (.i .i64 0)))])
  (.blk 0 (.pre [.keep [5, 1, 0]] (.loop weqHeadS_l0))))
  (.seq (.r [.mv 4 (.c (.d (.b true)))])
  (.ret))))⟩
/-- live: [0, 1, 5]; objects: [] -/
def wszPageS_l0 : C :=
  .seq (.seq (.r [.mv 12 (.t 5),
      .mv 13 (.t 0),
      .len 14 (.t 13),
      .bin 15 .lss .num (.t 12) (.t 14),
      .kill [12, 13, 14]])
    (.cond (.t 15)
      (.pre [.kill [15]] (.skip))
      (.pre [.keep [1]] (.ex 0))))
    (.seq (.blk 1 (.seq (.r [.mv 18 (.t 0),
      .mv 19 (.t 5),
      .ia 20 3 (.t 18) (.t 19),
      .ld 21 3 true (.t 20),
      .mv 22 (.t 1),
      .call 23 true [] (.c (.clo wszPage [])) [(.t 21), (.t 22)],
      .kill [1, 18, 19, 20, 21, 22],
      .mv 1 (.t 23),
      .keep [5, 1, 0]])
    (.seq (.r [.mv 24 (.t 1),
      .bin 25 .lss .num (.t 24) (.c (.d (.i .i64 0))),
      .kill [24]])
    (.cond (.t 25)
      (.pre [.keep []] (.seq (.r [.mv 4 (.c (.d (.i .i64 (-1))))])
      (.ret)))
      (.pre [.kill [25]] (.skip))))))
    (.r [.mv 16 (.t 5),
      .bin 17 .add .num (.t 16) (.c (.d (.i .i64 1))),
      .mv 5 (.t 17),
      .kill [16, 17]]))
def wszPageS_m : Fn := ⟨2, [.t 4], false,
  .seq (.r [.mv 4 (.c (.d (.i .i64 0))),
    .kill [4]])
  (.seq (.r [.mv 6 (.t 1),
    .mv 7 (.t 0),
    .len 8 (.t 7),
    .bin 9 .sub .num (.t 6) (.t 8),
    .mv 1 (.t 9),
    .keep [1, 0]])
  (.seq (.seq (.r [.mv 10 (.t 1),
    .bin 11 .lss .num (.t 10) (.c (.d (.i .i64 0))),
    .kill [10]])
  (.cond (.t 11)
    (.pre [.keep []] (.seq (.r [.mv 4 (.c (.d (.i .i64 (-1))))])
    (.ret)))
    (.pre [.kill [11]] (.skip))))
  (.seq (.seq (.r [.mv 5 (.c (.d (.i .i64 0)))])
  (.blk 0 (.pre [.keep [5, 1, 0]] (.loop wszPageS_l0))))
  (.seq (.r [.mv 26 (.t 1),
    .mv 4 (.t 26),
    .keep [4]])
  (.ret)))))⟩
/-- live: [0, 3, 4]; objects: [] -/
def sPathText_l0 : C :=
  .seq (.seq (.r [.mv 8 (.t 4),
      .mv 9 (.t 0),
      .len 10 (.t 9),
      .bin 11 .lss .num (.t 8) (.t 10),
      .kill [8, 9, 10]])
    (.cond (.t 11)
      (.pre [.kill [11]] (.skip))
      (.pre [.keep [3]] (.ex 0))))
    (.seq (.blk 1 (.r [.mv 14 (.t 3),
      .bin 15 .add .num (.t 14) (.c (.d (.s [47]))),
      .mv 16 (.t 0),
      .mv 17 (.t 4),
      .ia 18 1 (.t 16) (.t 17),
      .ld 19 1 false (.t 18),
      .kill [3, 14, 16, 17, 18],
      .call 20 true [] (.c (.clo sQuote [])) [(.t 19)],
      .bin 21 .add .num (.t 15) (.t 20),
      .mv 3 (.t 21),
      .keep [4, 3, 0]]))
    (.r [.mv 12 (.t 4),
      .bin 13 .add .num (.t 12) (.c (.d (.i .i64 1))),
      .mv 4 (.t 13),
      .kill [12, 13]]))
def sPathText_m : Fn := ⟨1, [.t 2], false,
  .seq (.r [.mv 2 (.c (.d (.s []))),
    .kill [2]])
  (.seq (.seq (.r [.mv 5 (.t 0),
    .call 6 true [] (.c (.clo sPathOk [])) [(.t 5)],
    .not 7 (.t 6),
    .kill [5, 6]])
  (.cond (.t 7)
    (.pre [.keep []] (.seq (.r [.mv 2 (.c (.d (.s [])))])
    (.ret)))
    (.pre [.kill [7]] (.skip))))
  (.seq (.r [.mv 3 (.c (.d (.s [])))])
  (.seq (.seq (.r [.mv 4 (.c (.d (.i .i64 0)))])
  (.blk 0 (.pre [.keep [4, 3, 0]] (.loop sPathText_l0))))
  (.seq (.seq (.r [.mv 22 (.t 3),
    .bin 23 .eql .num (.t 22) (.c (.d (.s []))),
    .kill [22]])
  (.cond (.t 23)
    (.pre [.keep []] (.seq (.r [.mv 2 (.c (.d (.s [47])))])
    (.ret)))
    (.pre [.kill [23]] (.skip))))
  (.seq (.r [.mv 24 (.t 3),
    .mv 2 (.t 24),
    .keep [2]])
  (.ret))))))⟩
/-- live: [1, 2, 5]; objects: [66] -/
def sl21At_l0 : C :=
  .seq (.seq (.r [.mv 6 (.t 5),
      .fa 7 (.t 2) 0,
      .ld 8 1 false (.t 7),
      .len 9 (.t 8),
      .bin 10 .lss .num (.t 6) (.t 9),
      .kill [6, 7, 8, 9]])
    (.cond (.t 10)
      (.pre [.kill [10]] (.skip))
      (.pre [.keep [], .drop [66]] (.ex 0))))
    (.seq (.blk 1 (.seq (.r [.fa 13 (.t 2) 0,
      .ld 14 1 false (.t 13),
      .mv 15 (.t 5),
      .ia 16 3 (.t 14) (.t 15),
      .fa 17 (.t 16) 0,
      .ld 18 1 false (.t 17),
      .kill [13, 14, 15, 16, 17],
      .mv 19 (.t 1),
      .call 20 true [] (.c (.clo sSamePath [])) [(.t 18), (.t 19)],
      .keep [20, 5, 2, 1]])
    (.cond (.t 20)
      (.pre [.keep [5], .drop [66]] (.seq (.r [.mv 21 (.t 5),
        .mv 4 (.t 21),
        .keep [4]])
      (.ret)))
      (.pre [.kill [20]] (.skip)))))
    (.r [.mv 11 (.t 5),
      .bin 12 .add .num (.t 11) (.c (.d (.i .i64 1))),
      .mv 5 (.t 12),
      .kill [11, 12]]))
def sl21At_m : Fn := ⟨2, [.t 4], false,
  .seq (.r [.bx 2 TCli true (.t 0),
    .mv 4 (.c (.d (.i .i64 0))),
    .kill [0, 4]])
  (.seq (.seq (.r [.mv 5 (.c (.d (.i .i64 0)))])
  (.blk 0 (.pre [.keep [5, 2, 1]] (.loop sl21At_l0))))
  (.seq (.r [.mv 4 (.c (.d (.i .i64 (-1))))])
  (.ret)))⟩
/-- live: [0, 3, 4]; objects: [71] -/
def wtoPageS_l0 : C :=
  .seq (.seq (.r [.mv 8 (.t 4),
      .mv 9 (.t 0),
      .len 10 (.t 9),
      .bin 11 .lss .num (.t 8) (.t 10),
      .kill [8, 9, 10]])
    (.cond (.t 11)
      (.pre [.kill [11]] (.skip))
      (.pre [.keep [3]] (.ex 0))))
    (.seq (.blk 1 (.r [.mv 14 (.t 3),
      .mv 15 (.t 4),
      .mv 16 (.t 0),
      .mv 17 (.t 4),
      .ia 18 3 (.t 16) (.t 17),
      .ld 19 3 true (.t 18),
      .call 20 false [] (.c (.clo wtoPage [])) [(.t 19)],
      .ia 21 3 (.t 14) (.t 15),
      .kill [14, 15, 16, 17, 18, 19],
      .st 3 (.t 21) (.t 20),
      .keep [4, 3, 0],
      .drop [21064]]))
    (.r [.mv 12 (.t 4),
      .bin 13 .add .num (.t 12) (.c (.d (.i .i64 1))),
      .mv 4 (.t 13),
      .kill [12, 13]]))
def wtoPageS_m : Fn := ⟨1, [.t 2], false,
  .seq (.r [.mv 2 (.c (.nil TPage)),
    .opn 2 2 false,
    .kill [2],
    .drop [66]])
  (.seq (.r [.mv 5 (.t 0),
    .len 6 (.t 5),
    .mk 7 TPage 56 (.t 6),
    .mv 3 (.t 7),
    .keep [3, 0]])
  (.seq (.seq (.r [.mv 4 (.c (.d (.i .i64 0)))])
  (.blk 0 (.pre [.keep [4, 3, 0]] (.loop wtoPageS_l0))))
  (.seq (.r [.mv 22 (.t 3),
    .mv 2 (.t 22),
    .ren 71 66,
    .keep [2],
    .drop [71]])
  (.ret))))⟩
/-- live: [3, 9, 10, 11]; objects: [67] -/
def iPathText_l0 : C :=
  .seq (.r [.bin 12 .lss .num (.t 11) (.t 10)])
    (.seq (.cond (.t 12)
      (.pre [.kill [12]] (.skip))
      (.pre [.keep [3]] (.ex 0)))
    (.seq (.blk 1 (.seq (.r [.ia 13 1 (.t 9) (.t 11),
      .ld 14 1 false (.t 13),
      .mv 5 (.t 14),
      .kill [13, 14]])
    (.r [.mv 15 (.t 3),
      .mv 16 (.t 5),
      .call 17 true [] (.c (.clo iQuote [])) [(.t 16)],
      .bs 18 .str false 1 [.d (.s [])] [(0, (.t 17))],
      .app 19 .str false 16 (.t 15) (.t 18),
      .kill [3, 5, 15, 16, 17, 18],
      .mv 3 (.t 19),
      .ren 83 67,
      .keep [11, 10, 9, 3],
      .drop [82, 83]])))
    (.r [.bin 20 .add .num (.t 11) (.c (.d (.i .i64 1))),
      .mv 11 (.t 20),
      .kill [20]])))
def iPathText_m : Fn := ⟨1, [.t 2], false,
  .seq (.r [.mv 2 (.c (.d (.s []))),
    .kill [2]])
  (.seq (.seq (.r [.mv 6 (.t 0),
    .call 7 true [] (.c (.clo iPathOk [])) [(.t 6)],
    .not 8 (.t 7),
    .kill [6, 7]])
  (.cond (.t 8)
    (.pre [.keep []] (.seq (.r [.mv 2 (.c (.d (.s [])))])
    (.ret)))
    (.pre [.kill [8]] (.skip))))
  (.seq (.r [.mv 3 (.c (.nil .str)),
    .opn 3 3 false])
  (.seq (.seq (.r [.mv 9 (.t 0),
    .len 10 (.t 9),
    .mv 11 (.c (.d (.i .i64 0))),
    .kill [0]])
  (.blk 0 (.pre [.keep [11, 10, 9, 3]] (.loop iPathText_l0))))
  (.seq (.r [.mv 21 (.t 3),
    .call 22 true [] (.c (.clo x_strings_Join [])) [(.t 21), (.c (.d (.s [47])))],
    .bin 23 .add .num (.c (.d (.s [47]))) (.t 22),
    .mv 2 (.t 23),
    .keep [2],
    .drop [67]])
  (.ret)))))⟩
/-- live: [1, 7, 8, 9]; objects: [] -/
def ipageAt_l0 : C :=
  .seq (.r [.bin 10 .lss .num (.t 9) (.t 8)])
    (.seq (.cond (.t 10)
      (.pre [.kill [10]] (.skip))
      (.pre [.keep []] (.ex 0)))
    (.seq (.blk 1 (.seq (.r [.mv 11 (.t 9),
      .ia 12 3 (.t 7) (.t 9),
      .ld 13 3 true (.t 12),
      .al 6 TPage true,
      .mv 5 (.t 11),
      .st 3 (.t 6) (.t 13),
      .kill [11, 12, 13]])
    (.seq (.r [.fa 14 (.t 6) 0,
      .ld 15 1 false (.t 14),
      .mv 16 (.t 1),
      .call 17 true [] (.c (.clo iSamePath [])) [(.t 15), (.t 16)],
      .kill [6, 14, 15, 16],
      .drop [70]])
    (.cond (.t 17)
      (.pre [.keep [5]] (.seq (.r [.mv 18 (.t 5),
        .mv 4 (.t 18),
        .keep [4]])
      (.ret)))
      (.pre [.kill [5, 17]] (.skip))))))
    (.r [.bin 19 .add .num (.t 9) (.c (.d (.i .i64 1))),
      .mv 9 (.t 19),
      .kill [19]])))
def ipageAt_m : Fn := ⟨2, [.t 4], false,
  .seq (.r [.mv 4 (.c (.d (.i .i64 0))),
    .kill [4]])
  (.seq (.seq (.r [.mv 7 (.t 0),
    .len 8 (.t 7),
    .mv 9 (.c (.d (.i .i64 0))),
    .kill [0]])
  (.blk 0 (.pre [.keep [9, 8, 7, 1]] (.loop ipageAt_l0))))
  (.seq (.r [.mv 4 (.c (.d (.i .i64 (-1))))])
  (.ret)))⟩
/-- live: [0, 1, 5]; objects: [] -/
def weqPageS_l0 : C :=
  .seq (.seq (.r [.mv 11 (.t 5),
      .mv 12 (.t 0),
      .len 13 (.t 12),
      .bin 14 .lss .num (.t 11) (.t 13),
      .kill [11, 12, 13]])
    (.cond (.t 14)
      (.pre [.kill [14]] (.skip))
      (.pre [.keep []] (.ex 0))))
    (.seq (.blk 1 (.seq (.post (.r [.mv 17 (.t 0),
      .mv 18 (.t 5),
      .ia 19 3 (.t 17) (.t 18),
      .ld 20 3 true (.t 19),
      .mv 21 (.t 1),
      .mv 22 (.t 5),
      .ia 23 3 (.t 21) (.t 22),
      .ld 24 3 true (.t 23),
      .call 25 true [] (.c (.clo weqPage [])) [(.t 20), (.t 24)],
      .not 26 (.t 25)]) [.keep [26, 5, 1, 0]])
    (.cond (.t 26)
      (.pre [.keep []] (.seq (.r [.mv 4 (.c (.d (.b false)))])
      (.ret)))
      (.pre [.kill [26]] (.skip)))))
    (.r [.mv 15 (.t 5),
      .bin 16 .add .num (.t 15) (.c (.d (.i .i64 1))),
      .mv 5 (.t 16),
      .kill [15, 16]]))
def weqPageS_m : Fn := ⟨2, [.t 4], false,
  .seq (.r [.mv 4 (.c (.d (.b false))),
    .kill [4]])
  (.seq (.seq (.r [.mv 6 (.t 0),
    .len 7 (.t 6),
    .mv 8 (.t 1),
    .len 9 (.t 8),
    .bin 10 .neq .num (.t 7) (.t 9),
    .keep [10, 1, 0]])
  (.cond (.t 10)
    (.pre [.keep []] (.seq (.r [.mv 4 (.c (.d (.b false)))])
    (.ret)))
    (.pre [.kill [10]] (.skip))))
  (.seq (.seq (.r [.mv 5 (.c (.d (.i .i64 0)))])
  (.blk 0 (.pre [.keep [5, 1, 0]] (.loop weqPageS_l0))))
  (.seq (.r [.mv 4 (.c (.d (.b true)))])
  (.ret))))⟩
/-- live: [0, 1, 5]; objects: [0] -/
def wmarkPageS_l0 : C :=
  .seq (.seq (.r [.mv 6 (.t 5),
      .mv 7 (.t 0),
      .len 8 (.t 7),
      .bin 9 .lss .num (.t 6) (.t 8),
      .kill [6, 7, 8]])
    (.cond (.t 9)
      (.pre [.kill [9]] (.skip))
      (.pre [.keep [1]] (.ex 0))))
    (.seq (.blk 1 (.seq (.r [.mv 12 (.t 0),
      .mv 13 (.t 5),
      .ia 14 3 (.t 12) (.t 13),
      .fa 15 (.t 14) 0,
      .ldm 16 (.t 15),
      .mv 17 (.t 1),
      .kill [1, 12, 13, 14, 15],
      .call 18 true [80] (.c (.clo wmarkStringS [])) [(.t 16), (.t 17)],
      .cls 0 80,
      .mv 1 (.t 18),
      .keep [5, 1, 0],
      .drop [80]])
    (.seq (.r [.mv 19 (.t 0),
      .mv 20 (.t 5),
      .mv 21 (.t 1),
      .call 22 true [] (.c (.clo wmarkText [])) [(.t 21)],
      .ia 23 3 (.t 19) (.t 20),
      .fa 24 (.t 23) 1,
      .st 1 (.t 24) (.t 22),
      .keep [5, 1, 0]])
    (.seq (.r [.mv 25 (.t 1),
      .bin 26 .add .num (.t 25) (.c (.d (.i .i64 1))),
      .mv 1 (.t 26),
      .kill [25, 26]])
    (.seq (.r [.mv 27 (.t 0),
      .mv 28 (.t 5),
      .mv 29 (.t 1),
      .call 30 true [] (.c (.clo wmarkText [])) [(.t 29)],
      .ia 31 3 (.t 27) (.t 28),
      .fa 32 (.t 31) 2,
      .st 1 (.t 32) (.t 30),
      .keep [5, 1, 0]])
    (.r [.mv 33 (.t 1),
      .bin 34 .add .num (.t 33) (.c (.d (.i .i64 1))),
      .mv 1 (.t 34),
      .kill [33, 34]]))))))
    (.r [.mv 10 (.t 5),
      .bin 11 .add .num (.t 10) (.c (.d (.i .i64 1))),
      .mv 5 (.t 11),
      .kill [10, 11]]))
def wmarkPageS_m : Fn := ⟨2, [.t 4], false,
  .seq (.r [.mv 4 (.c (.d (.i .i64 0))),
    .kill [4]])
  (.seq (.seq (.r [.mv 5 (.c (.d (.i .i64 0)))])
  (.blk 0 (.pre [.keep [5, 1, 0]] (.loop wmarkPageS_l0))))
  (.seq (.r [.mv 35 (.t 1),
    .mv 4 (.t 35),
    .keep [4]])
  (.ret)))⟩
/-- live: [0, 3]; objects: [] -/
def wmarkText_l0 : C :=
  .seq (.seq (.r [.mv 6 (.t 0),
      .bin 7 .gtr .num (.t 6) (.c (.d (.i .i64 0))),
      .kill [6]])
    (.cond (.t 7)
      (.pre [.kill [7]] (.skip))
      (.pre [.keep [3]] (.ex 0))))
    (.blk 1 (.seq (.r [.mv 8 (.t 0),
      .bin 9 .rem .num (.t 8) (.c (.d (.i .i64 10))),
      .bin 10 .add .num (.c (.d (.i .i64 48))) (.t 9),
      .cvi 11 .u8 (.t 10),
      .bs 12 .u8 false 1 [.d (.u 0)] [(0, (.t 11))],
      .b2s 13 (.t 12),
      .kill [8, 9, 10, 11, 12],
      .mv 14 (.t 3),
      .bin 15 .add .num (.t 13) (.t 14),
      .mv 3 (.t 15),
      .keep [3, 0],
      .drop [76]])
    (.r [.mv 16 (.t 0),
      .bin 17 .quo .num (.t 16) (.c (.d (.i .i64 10))),
      .mv 0 (.t 17),
      .kill [16, 17]])))
def wmarkText_m : Fn := ⟨1, [.t 2], false,
  .seq (.r [.mv 2 (.c (.d (.s []))),
    .kill [2]])
  (.seq (.seq (.r [.mv 4 (.t 0),
    .bin 5 .leq .num (.t 4) (.c (.d (.i .i64 0))),
    .kill [4]])
  (.cond (.t 5)
    (.pre [.keep []] (.seq (.r [.mv 2 (.c (.d (.s [109, 48])))])
    (.ret)))
    (.pre [.kill [5]] (.skip))))
  (.seq (.r [.mv 3 (.c (.d (.s [])))])
  (.seq (.blk 0 (.pre [.keep [3, 0]] (.loop wmarkText_l0)))
  (.seq (.r [.mv 18 (.t 3),
    .bin 19 .add .num (.c (.d (.s [109]))) (.t 18),
    .mv 2 (.t 19),
    .keep [2]])
  (.ret)))))⟩
/-- live: [0, 1, 5]; objects: [0] -/
def wmarkHeadS_l0 : C :=
  .seq (.seq (.r [.mv 6 (.t 5),
      .mv 7 (.t 0),
      .len 8 (.t 7),
      .bin 9 .lss .num (.t 6) (.t 8),
      .kill [6, 7, 8]])
    (.cond (.t 9)
      (.pre [.kill [9]] (.skip))
      (.pre [.keep [1]] (.ex 0))))
    (.seq (.blk 1 (.seq (.r [.mv 12 (.t 0),
      .mv 13 (.t 5),
      .mv 14 (.t 1),
      .call 15 true [] (.c (.clo wmarkText [])) [(.t 14)],
      .ia 16 2 (.t 12) (.t 13),
      .fa 17 (.t 16) 0,
      .st 1 (.t 17) (.t 15),
      .keep [5, 1, 0]])
    (.seq (.r [.mv 18 (.t 1),
      .bin 19 .add .num (.t 18) (.c (.d (.i .i64 1))),
      .mv 1 (.t 19),
      .kill [18, 19]])
    (.seq (.r [.mv 20 (.t 0),
      .mv 21 (.t 5),
      .mv 22 (.t 1),
      .call 23 true [] (.c (.clo wmarkText [])) [(.t 22)],
      .ia 24 2 (.t 20) (.t 21),
      .fa 25 (.t 24) 1,
      .st 1 (.t 25) (.t 23),
      .keep [5, 1, 0]])
    (.r [.mv 26 (.t 1),
      .bin 27 .add .num (.t 26) (.c (.d (.i .i64 1))),
      .mv 1 (.t 27),
      .kill [26, 27]])))))
    (.r [.mv 10 (.t 5),
      .bin 11 .add .num (.t 10) (.c (.d (.i .i64 1))),
      .mv 5 (.t 11),
      .kill [10, 11]]))
def wmarkHeadS_m : Fn := ⟨2, [.t 4], false,
  .seq (.r [.mv 4 (.c (.d (.i .i64 0))),
    .kill [4]])
  (.seq (.seq (.r [.mv 5 (.c (.d (.i .i64 0)))])
  (.blk 0 (.pre [.keep [5, 1, 0]] (.loop wmarkHeadS_l0))))
  (.seq (.r [.mv 28 (.t 1),
    .mv 4 (.t 28),
    .keep [4]])
  (.ret)))⟩
/-- live: [0, 1, 5]; objects: [] -/
def wheldHeadS_l0 : C :=
  .seq (.seq (.r [.mv 6 (.t 5),
      .mv 7 (.t 0),
      .len 8 (.t 7),
      .bin 9 .lss .num (.t 6) (.t 8),
      .kill [6, 7, 8]])
    (.cond (.t 9)
      (.pre [.kill [9]] (.skip))
      (.pre [.keep [1]] (.ex 0))))
    (.seq (.blk 1 (.seq (.seq (.post (.r [.mv 12 (.t 0),
      .mv 13 (.t 5),
      .ia 14 2 (.t 12) (.t 13),
      .fa 15 (.t 14) 0,
      .ld 16 1 false (.t 15),
      .mv 17 (.t 1),
      .call 18 true [] (.c (.clo wmarkText [])) [(.t 17)],
      .bin 19 .neq .num (.t 16) (.t 18)]) [.keep [19, 5, 1, 0]])
    (.cond (.t 19)
      (.pre [.keep []] (.seq (.r [.mv 4 (.c (.d (.i .i64 (-1))))])
      (.ret)))
      (.pre [.kill [19]] (.skip))))
    (.seq (.r [.mv 20 (.t 1),
      .bin 21 .add .num (.t 20) (.c (.d (.i .i64 1))),
      .mv 1 (.t 21),
      .kill [20, 21]])
    (.seq (.seq (.post (.r [.mv 22 (.t 0),
      .mv 23 (.t 5),
      .ia 24 2 (.t 22) (.t 23),
      .fa 25 (.t 24) 1,
      .ld 26 1 false (.t 25),
      .mv 27 (.t 1),
      .call 28 true [] (.c (.clo wmarkText [])) [(.t 27)],
      .bin 29 .neq .num (.t 26) (.t 28)]) [.keep [29, 5, 1, 0]])
    (.cond (.t 29)
      (.pre [.keep []] (.seq (.r [.mv 4 (.c (.d (.i .i64 (-1))))])
      (.ret)))
      (.pre [.kill [29]] (.skip))))
    (.r [.mv 30 (.t 1),
      .bin 31 .add .num (.t 30) (.c (.d (.i .i64 1))),
      .mv 1 (.t 31),
      .kill [30, 31]])))))
    (.r [.mv 10 (.t 5),
      .bin 11 .add .num (.t 10) (.c (.d (.i .i64 1))),
      .mv 5 (.t 11),
      .kill [10, 11]]))
def wheldHeadS_m : Fn := ⟨2, [.t 4], false,
  .seq (.r [.mv 4 (.c (.d (.i .i64 0))),
    .kill [4]])
  (.seq (.seq (.r [.mv 5 (.c (.d (.i .i64 0)))])
  (.blk 0 (.pre [.keep [5, 1, 0]] (.loop wheldHeadS_l0))))
  (.seq (.r [.mv 32 (.t 1),
    .mv 4 (.t 32),
    .keep [4]])
  (.ret)))⟩
def weqHead_m : Fn := ⟨2, [.t 4], false,
  .seq (.r [.bx 2 THead false (.t 0),
    .bx 3 THead false (.t 1),
    .mv 4 (.c (.d (.b false))),
    .keep [3, 2]])
  (.seq (.seq (.r [.fa 5 (.t 2) 0,
    .ld 6 1 false (.t 5),
    .fa 7 (.t 3) 0,
    .ld 8 1 false (.t 7),
    .bin 9 .neq .num (.t 6) (.t 8),
    .keep [9, 3, 2]])
  (.cond (.t 9)
    (.pre [.keep [], .drop [66, 67]] (.seq (.r [.mv 4 (.c (.d (.b false)))])
    (.ret)))
    (.pre [.kill [9]] (.skip))))
  (.seq (.seq (.r [.fa 10 (.t 2) 1,
    .ld 11 1 false (.t 10),
    .fa 12 (.t 3) 1,
    .ld 13 1 false (.t 12),
    .bin 14 .neq .num (.t 11) (.t 13),
    .keep [14],
    .drop [66, 67]])
  (.cond (.t 14)
    (.pre [.keep []] (.seq (.r [.mv 4 (.c (.d (.b false)))])
    (.ret)))
    (.pre [.keep []] (.skip))))
  (.seq (.r [.mv 4 (.c (.d (.b true)))])
  (.ret))))⟩
def wszPage_m : Fn := ⟨2, [.t 4], false,
  .seq (.r [.bx 2 TPage true (.t 0),
    .mv 4 (.c (.d (.i .i64 0))),
    .kill [0, 4]])
  (.seq (.r [.fa 5 (.t 2) 0,
    .ld 6 1 false (.t 5),
    .mv 7 (.t 1),
    .call 8 true [] (.c (.clo wszStringS [])) [(.t 6), (.t 7)],
    .mv 1 (.t 8),
    .keep [2, 1]])
  (.seq (.seq (.r [.mv 9 (.t 1),
    .bin 10 .lss .num (.t 9) (.c (.d (.i .i64 0))),
    .kill [9]])
  (.cond (.t 10)
    (.pre [.keep [], .drop [66]] (.seq (.r [.mv 4 (.c (.d (.i .i64 (-1))))])
    (.ret)))
    (.pre [.kill [10]] (.skip))))
  (.seq (.r [.mv 11 (.t 1),
    .fa 12 (.t 2) 1,
    .ld 13 1 false (.t 12),
    .lns 14 (.t 13),
    .bin 15 .sub .num (.t 11) (.t 14),
    .kill [1, 11, 12, 13, 14],
    .mv 1 (.t 15),
    .keep [2, 1]])
  (.seq (.seq (.r [.mv 16 (.t 1),
    .bin 17 .lss .num (.t 16) (.c (.d (.i .i64 0))),
    .kill [16]])
  (.cond (.t 17)
    (.pre [.keep [], .drop [66]] (.seq (.r [.mv 4 (.c (.d (.i .i64 (-1))))])
    (.ret)))
    (.pre [.kill [17]] (.skip))))
  (.seq (.r [.mv 18 (.t 1),
    .fa 19 (.t 2) 2,
    .ld 20 1 false (.t 19),
    .lns 21 (.t 20),
    .bin 22 .sub .num (.t 18) (.t 21),
    .kill [1, 2, 18, 19, 20, 21],
    .mv 1 (.t 22),
    .keep [1],
    .drop [66]])
  (.seq (.seq (.r [.mv 23 (.t 1),
    .bin 24 .lss .num (.t 23) (.c (.d (.i .i64 0))),
    .kill [23]])
  (.cond (.t 24)
    (.pre [.keep []] (.seq (.r [.mv 4 (.c (.d (.i .i64 (-1))))])
    (.ret)))
    (.pre [.kill [24]] (.skip))))
  (.seq (.r [.mv 25 (.t 1),
    .mv 4 (.t 25),
    .keep [4]])
  (.ret))))))))⟩
/-- live: [0, 3]; objects: [] -/
def sPathOk_l0 : C :=
  .seq (.seq (.r [.mv 4 (.t 3),
      .mv 5 (.t 0),
      .len 6 (.t 5),
      .bin 7 .lss .num (.t 4) (.t 6),
      .kill [4, 5, 6]])
    (.cond (.t 7)
      (.pre [.kill [7]] (.skip))
      (.pre [.keep [0]] (.ex 0))))
    (.seq (.blk 1 (.seq (.r [.mv 10 (.t 0),
      .mv 11 (.t 3),
      .ia 12 1 (.t 10) (.t 11),
      .ld 13 1 false (.t 12),
      .call 14 true [] (.c (.clo sNameOk [])) [(.t 13)],
      .not 15 (.t 14),
      .keep [15, 3, 0]])
    (.cond (.t 15)
      (.pre [.keep []] (.seq (.r [.mv 2 (.c (.d (.b false)))])
      (.ret)))
      (.pre [.kill [15]] (.skip)))))
    (.r [.mv 8 (.t 3),
      .bin 9 .add .num (.t 8) (.c (.d (.i .i64 1))),
      .mv 3 (.t 9),
      .kill [8, 9]]))
def sPathOk_m : Fn := ⟨1, [.t 2], false,
  .seq (.r [.mv 2 (.c (.d (.b false))),
    .kill [2]])
  (.seq (.seq (.r [.mv 3 (.c (.d (.i .i64 0)))])
  (.blk 0 (.pre [.keep [3, 0]] (.loop sPathOk_l0))))
  (.seq (.r [.mv 16 (.t 0),
    .len 17 (.t 16),
    .bin 18 .leq .num (.t 17) (.c (.d (.i .i64 4))),
    .mv 2 (.t 18),
    .keep [2]])
  (.ret)))⟩
/-- live: [0, 3, 4]; objects: [67] -/
def sQuote_l0 : C :=
  .seq (.seq (.r [.mv 6 (.t 4),
      .mv 7 (.t 0),
      .lns 8 (.t 7),
      .bin 9 .lss .num (.t 6) (.t 8),
      .kill [6, 7, 8]])
    (.cond (.t 9)
      (.pre [.kill [9]] (.skip))
      (.pre [.keep [3]] (.ex 0))))
    (.seq (.blk 1 (.seq (.r [.mv 12 (.t 0),
      .mv 13 (.t 4),
      .ix 14 (.t 12) (.t 13),
      .call 15 true [] (.c (.clo sl2Free [])) [(.t 14)],
      .kill [12, 13, 14]])
    (.cond (.t 15)
      (.pre [.kill [15]] (.r [.mv 16 (.t 3),
        .mv 17 (.t 0),
        .mv 18 (.t 4),
        .ix 19 (.t 17) (.t 18),
        .bs 20 .u8 false 1 [.d (.u 0)] [(0, (.t 19))],
        .app 21 .u8 false 1 (.t 16) (.t 20),
        .kill [3, 16, 17, 18, 19, 20],
        .mv 3 (.t 21),
        .ren 85 67,
        .keep [4, 3, 0],
        .drop [84, 85]]))
      (.pre [.kill [15]] (.post (.r [.mv 22 (.t 3),
        .mv 23 (.t 0),
        .mv 24 (.t 4),
        .ix 25 (.t 23) (.t 24),
        .cvi 26 .i64 (.t 25),
        .bin 27 .quo .num (.t 26) (.c (.d (.i .i64 16))),
        .call 28 true [] (.c (.clo sl2Digit [])) [(.t 27)],
        .mv 29 (.t 0),
        .mv 30 (.t 4),
        .ix 31 (.t 29) (.t 30),
        .cvi 32 .i64 (.t 31),
        .bin 33 .rem .num (.t 32) (.c (.d (.i .i64 16))),
        .call 34 true [] (.c (.clo sl2Digit [])) [(.t 33)],
        .bs 35 .u8 false 3 [.d (.u 0)] [(0, (.c (.d (.u 37)))), (1, (.t 28)), (2, (.t 34))],
        .app 36 .u8 false 1 (.t 22) (.t 35),
        .mv 3 (.t 36)]) [.ren 100 67, .keep [4, 3, 0], .drop [99, 100]])))))
    (.r [.mv 10 (.t 4),
      .bin 11 .add .num (.t 10) (.c (.d (.i .i64 1))),
      .mv 4 (.t 11),
      .kill [10, 11]]))
def sQuote_m : Fn := ⟨1, [.t 2], false,
  .seq (.r [.mv 2 (.c (.d (.s []))),
    .kill [2]])
  (.seq (.r [.bs 5 .u8 false 0 [.d (.u 0)] [],
    .mv 3 (.t 5),
    .ren 69 67,
    .kill [5],
    .drop [69]])
  (.seq (.seq (.r [.mv 4 (.c (.d (.i .i64 0)))])
  (.blk 0 (.pre [.keep [4, 3, 0]] (.loop sQuote_l0))))
  (.seq (.r [.mv 37 (.t 3),
    .b2s 38 (.t 37),
    .mv 2 (.t 38),
    .keep [2],
    .drop [67]])
  (.ret))))⟩
/-- live: [0, 1, 5]; objects: [] -/
def sSamePath_l0 : C :=
  .seq (.seq (.r [.mv 11 (.t 5),
      .mv 12 (.t 0),
      .len 13 (.t 12),
      .bin 14 .lss .num (.t 11) (.t 13),
      .kill [11, 12, 13]])
    (.cond (.t 14)
      (.pre [.kill [14]] (.skip))
      (.pre [.keep []] (.ex 0))))
    (.seq (.blk 1 (.seq (.post (.r [.mv 17 (.t 0),
      .mv 18 (.t 5),
      .ia 19 1 (.t 17) (.t 18),
      .ld 20 1 false (.t 19),
      .mv 21 (.t 1),
      .mv 22 (.t 5),
      .ia 23 1 (.t 21) (.t 22),
      .ld 24 1 false (.t 23),
      .bin 25 .neq .num (.t 20) (.t 24)]) [.keep [25, 5, 1, 0]])
    (.cond (.t 25)
      (.pre [.keep []] (.seq (.r [.mv 4 (.c (.d (.b false)))])
      (.ret)))
      (.pre [.kill [25]] (.skip)))))
    (.r [.mv 15 (.t 5),
      .bin 16 .add .num (.t 15) (.c (.d (.i .i64 1))),
      .mv 5 (.t 16),
      .kill [15, 16]]))
def sSamePath_m : Fn := ⟨2, [.t 4], false,
  .seq (.r [.mv 4 (.c (.d (.b false))),
    .kill [4]])
  (.seq (.seq (.r [.mv 6 (.t 0),
    .len 7 (.t 6),
    .mv 8 (.t 1),
    .len 9 (.t 8),
    .bin 10 .neq .num (.t 7) (.t 9),
    .keep [10, 1, 0]])
  (.cond (.t 10)
    (.pre [.keep []] (.seq (.r [.mv 4 (.c (.d (.b false)))])
    (.ret)))
    (.pre [.kill [10]] (.skip))))
  (.seq (.seq (.r [.mv 5 (.c (.d (.i .i64 0)))])
  (.blk 0 (.pre [.keep [5, 1, 0]] (.loop sSamePath_l0))))
  (.seq (.r [.mv 4 (.c (.d (.b true)))])
  (.ret))))⟩
def wtoPage_m : Fn := ⟨1, [.cell 2 3 true], false,
  .seq (.r [.bx 1 TPage true (.t 0),
    .al 2 TPage false,
    .kill [0]])
  (.seq (.r [.al 3 TPage false])
  (.seq (.r [.fa 4 (.t 1) 0,
    .ld 5 1 false (.t 4),
    .call 6 false [] (.c (.clo wtoStringS [])) [(.t 5)],
    .fa 7 (.t 3) 0,
    .st 1 (.t 7) (.t 6),
    .keep [3, 2, 1],
    .drop [7064]])
  (.seq (.r [.fa 8 (.t 1) 1,
    .ld 9 1 false (.t 8),
    .fa 10 (.t 3) 1,
    .st 1 (.t 10) (.t 9),
    .kill [8, 9, 10]])
  (.seq (.r [.fa 11 (.t 1) 2,
    .ld 12 1 false (.t 11),
    .fa 13 (.t 3) 2,
    .st 1 (.t 13) (.t 12),
    .keep [3, 2],
    .drop [65]])
  (.seq (.r [.ldt 14 3 true (.t 3),
    .st 3 (.t 2) (.t 14),
    .keep [2],
    .drop [67, 15064]])
  (.ret))))))⟩
/-- live: [0, 5, 6, 7]; objects: [] -/
def iPathOk_l0 : C :=
  .seq (.r [.bin 8 .lss .num (.t 7) (.t 6)])
    (.seq (.cond (.t 8)
      (.pre [.kill [8]] (.skip))
      (.pre [.keep [0]] (.ex 0)))
    (.seq (.blk 1 (.seq (.r [.ia 9 1 (.t 5) (.t 7),
      .ld 10 1 false (.t 9),
      .mv 4 (.t 10),
      .kill [9, 10]])
    (.seq (.r [.mv 11 (.t 4),
      .call 12 true [] (.c (.clo iNameOk [])) [(.t 11)],
      .not 13 (.t 12),
      .kill [4, 11, 12]])
    (.cond (.t 13)
      (.pre [.keep []] (.seq (.r [.mv 2 (.c (.d (.b false)))])
      (.ret)))
      (.pre [.kill [13]] (.skip))))))
    (.r [.bin 14 .add .num (.t 7) (.c (.d (.i .i64 1))),
      .mv 7 (.t 14),
      .kill [14]])))
def iPathOk_m : Fn := ⟨1, [.t 2], false,
  .seq (.r [.mv 2 (.c (.d (.b false))),
    .kill [2]])
  (.seq (.seq (.r [.mv 5 (.t 0),
    .len 6 (.t 5),
    .mv 7 (.c (.d (.i .i64 0)))])
  (.blk 0 (.pre [.keep [7, 6, 5, 0]] (.loop iPathOk_l0))))
  (.seq (.r [.mv 15 (.t 0),
    .len 16 (.t 15),
    .bin 17 .leq .num (.t 16) (.c (.d (.i .i64 4))),
    .mv 2 (.t 17),
    .keep [2]])
  (.ret)))⟩
/-- live: [0, 3, 4]; objects: [67] -/
def iQuote_l0 : C :=
  .seq (.seq (.r [.mv 6 (.t 4),
      .mv 7 (.t 0),
      .lns 8 (.t 7),
      .bin 9 .lss .num (.t 6) (.t 8),
      .kill [6, 7, 8]])
    (.cond (.t 9)
      (.pre [.kill [9]] (.skip))
      (.pre [.keep [3]] (.ex 0))))
    (.seq (.blk 1 (.seq (.r [.mv 12 (.t 0),
      .mv 13 (.t 4),
      .ix 14 (.t 12) (.t 13),
      .mv 5 (.t 14),
      .kill [12, 13, 14]])
    (.seq (.r [.mv 15 (.t 5),
      .call 16 true [] (.c (.clo iisSmall [])) [(.t 15)],
      .mv 17 (.t 16),
      .gd 17 false (some 18) (.mv 18 (.t 5)),
      .gd 17 false (some 19) (.call 19 true [] (.c (.clo iisLarge [])) [(.t 18)]),
      .pick 20 (.t 17) (.c (.d (.b true))) (.t 19),
      .kill [15, 16, 17, 18, 19],
      .mv 21 (.t 20),
      .gd 21 false (some 22) (.mv 22 (.t 5)),
      .gd 21 false (some 23) (.call 23 true [] (.c (.clo iisDigit [])) [(.t 22)]),
      .pick 24 (.t 21) (.c (.d (.b true))) (.t 23),
      .mv 25 (.t 24),
      .kill [20, 21, 22, 23, 24],
      .gd 25 false (some 26) (.mv 26 (.t 5)),
      .gd 25 false (some 27) (.call 27 true [] (.c (.clo x_strings_IndexByte [])) [(.c (.d (.s [45, 46, 95, 126]))), (.t 26)]),
      .gd 25 false (some 28) (.bin 28 .geq .num (.t 27) (.c (.d (.i .i64 0)))),
      .pick 29 (.t 25) (.c (.d (.b true))) (.t 28),
      .keep [29, 5, 4, 3, 0]])
    (.cond (.t 29)
      (.pre [.kill [29]] (.r [.mv 30 (.t 3),
        .mv 31 (.t 5),
        .bs 32 .u8 false 1 [.d (.u 0)] [(0, (.t 31))],
        .app 33 .u8 false 1 (.t 30) (.t 32),
        .kill [3, 5, 30, 31, 32],
        .mv 3 (.t 33),
        .ren 97 67,
        .keep [4, 3, 0],
        .drop [96, 97]]))
      (.pre [.kill [29]] (.post (.r [.mv 34 (.t 3),
        .mv 35 (.t 5),
        .bin 36 .shr .num (.t 35) (.c (.d (.i .u64 4))),
        .ix 37 (.c (.d (.s [48, 49, 50, 51, 52, 53, 54, 55, 56, 57, 65, 66, 67, 68, 69, 70]))) (.t 36),
        .mv 38 (.t 5),
        .bin 39 .and .num (.t 38) (.c (.d (.u 15))),
        .ix 40 (.c (.d (.s [48, 49, 50, 51, 52, 53, 54, 55, 56, 57, 65, 66, 67, 68, 69, 70]))) (.t 39),
        .bs 41 .u8 false 3 [.d (.u 0)] [(0, (.c (.d (.u 37)))), (1, (.t 37)), (2, (.t 40))],
        .app 42 .u8 false 1 (.t 34) (.t 41),
        .mv 3 (.t 42)]) [.ren 106 67, .keep [4, 3, 0], .drop [105, 106]]))))))
    (.r [.mv 10 (.t 4),
      .bin 11 .add .num (.t 10) (.c (.d (.i .i64 1))),
      .mv 4 (.t 11),
      .kill [10, 11]]))
def iQuote_m : Fn := ⟨1, [.t 2], false,
  .seq (.r [.mv 2 (.c (.d (.s []))),
    .kill [2]])
  (.seq (.r [.mv 3 (.c (.nil .u8)),
    .opn 3 3 false])
  (.seq (.seq (.r [.mv 4 (.c (.d (.i .i64 0)))])
  (.blk 0 (.pre [.keep [4, 3, 0]] (.loop iQuote_l0))))
  (.seq (.r [.mv 43 (.t 3),
    .b2s 44 (.t 43),
    .mv 2 (.t 44),
    .keep [2],
    .drop [67]])
  (.ret))))⟩
/-- live: [0, 1, 12, 13]; objects: [] -/
def iSamePath_l0 : C :=
  .seq (.r [.bin 14 .lss .num (.t 13) (.t 12)])
    (.seq (.cond (.t 14)
      (.pre [.kill [14]] (.skip))
      (.pre [.keep []] (.ex 0)))
    (.seq (.blk 1 (.seq (.r [.mv 15 (.t 13),
      .mv 5 (.t 15),
      .kill [15]])
    (.seq (.post (.r [.mv 16 (.t 0),
      .mv 17 (.t 5),
      .ia 18 1 (.t 16) (.t 17),
      .ld 19 1 false (.t 18),
      .mv 20 (.t 1),
      .mv 21 (.t 5),
      .ia 22 1 (.t 20) (.t 21),
      .ld 23 1 false (.t 22),
      .bin 24 .neq .num (.t 19) (.t 23)]) [.keep [24, 13, 12, 1, 0]])
    (.cond (.t 24)
      (.pre [.keep []] (.seq (.r [.mv 4 (.c (.d (.b false)))])
      (.ret)))
      (.pre [.kill [24]] (.skip))))))
    (.r [.bin 25 .add .num (.t 13) (.c (.d (.i .i64 1))),
      .mv 13 (.t 25),
      .kill [25]])))
def iSamePath_m : Fn := ⟨2, [.t 4], false,
  .seq (.r [.mv 4 (.c (.d (.b false))),
    .kill [4]])
  (.seq (.seq (.r [.mv 6 (.t 0),
    .len 7 (.t 6),
    .mv 8 (.t 1),
    .len 9 (.t 8),
    .bin 10 .neq .num (.t 7) (.t 9),
    .keep [10, 1, 0]])
  (.cond (.t 10)
    (.pre [.keep []] (.seq (.r [.mv 4 (.c (.d (.b false)))])
    (.ret)))
    (.pre [.kill [10]] (.skip))))
  (.seq (.seq (.r [.mv 11 (.t 0),
    .len 12 (.t 11),
    .mv 13 (.c (.d (.i .i64 0))),
    .kill [11]])
  (.blk 0 (.pre [.keep [13, 12, 1, 0]] (.loop iSamePath_l0))))
  (.seq (.r [.mv 4 (.c (.d (.b true)))])
  (.ret))))⟩
def weqPage_m : Fn := ⟨2, [.t 4], false,
  .seq (.r [.bx 2 TPage true (.t 0),
    .bx 3 TPage true (.t 1),
    .mv 4 (.c (.d (.b false))),
    .keep [3, 2]])
  (.seq (.seq (.r [.fa 5 (.t 2) 0,
    .ld 6 1 false (.t 5),
    .fa 7 (.t 3) 0,
    .ld 8 1 false (.t 7),
    .call 9 true [] (.c (.clo weqStringS [])) [(.t 6), (.t 8)],
    .not 10 (.t 9),
    .keep [10, 3, 2]])
  (.cond (.t 10)
    (.pre [.keep [], .drop [66, 67]] (.seq (.r [.mv 4 (.c (.d (.b false)))])
    (.ret)))
    (.pre [.kill [10]] (.skip))))
  (.seq (.seq (.r [.fa 11 (.t 2) 1,
    .ld 12 1 false (.t 11),
    .fa 13 (.t 3) 1,
    .ld 14 1 false (.t 13),
    .bin 15 .neq .num (.t 12) (.t 14),
    .keep [15, 3, 2]])
  (.cond (.t 15)
    (.pre [.keep [], .drop [66, 67]] (.seq (.r [.mv 4 (.c (.d (.b false)))])
    (.ret)))
    (.pre [.kill [15]] (.skip))))
  (.seq (.seq (.r [.fa 16 (.t 2) 2,
    .ld 17 1 false (.t 16),
    .fa 18 (.t 3) 2,
    .ld 19 1 false (.t 18),
    .bin 20 .neq .num (.t 17) (.t 19),
    .keep [20],
    .drop [66, 67]])
  (.cond (.t 20)
    (.pre [.keep []] (.seq (.r [.mv 4 (.c (.d (.b false)))])
    (.ret)))
    (.pre [.keep []] (.skip))))
  (.seq (.r [.mv 4 (.c (.d (.b true)))])
  (.ret)))))⟩
/-- live: [0, 3]; objects: [] -/
def sNameOk_l0 : C :=
  .seq (.seq (.r [.mv 4 (.t 3),
      .mv 5 (.t 0),
      .lns 6 (.t 5),
      .bin 7 .lss .num (.t 4) (.t 6),
      .kill [4, 5, 6]])
    (.cond (.t 7)
      (.pre [.kill [7]] (.skip))
      (.pre [.keep [0]] (.ex 0))))
    (.seq (.blk 1 (.seq (.r [.mv 10 (.t 0),
      .mv 11 (.t 3),
      .ix 12 (.t 10) (.t 11),
      .bin 13 .eql .num (.t 12) (.c (.d (.u 47))),
      .kill [10, 11, 12]])
    (.cond (.t 13)
      (.pre [.keep []] (.seq (.r [.mv 2 (.c (.d (.b false)))])
      (.ret)))
      (.pre [.kill [13]] (.skip)))))
    (.r [.mv 8 (.t 3),
      .bin 9 .add .num (.t 8) (.c (.d (.i .i64 1))),
      .mv 3 (.t 9),
      .kill [8, 9]]))
def sNameOk_m : Fn := ⟨1, [.t 2], false,
  .seq (.r [.mv 2 (.c (.d (.b false))),
    .kill [2]])
  (.seq (.seq (.r [.mv 3 (.c (.d (.i .i64 0)))])
  (.blk 0 (.pre [.keep [3, 0]] (.loop sNameOk_l0))))
  (.seq (.r [.mv 14 (.t 0),
    .lns 15 (.t 14),
    .call 16 true [] (.c (.clo sl1In [])) [(.t 15), (.c (.d (.i .i64 1))), (.c (.d (.i .i64 8)))],
    .mv 17 (.t 16),
    .gd 17 true (some 18) (.mv 18 (.t 0)),
    .gd 17 true (some 19) (.call 19 true [] (.c (.clo sPlain [])) [(.t 18)]),
    .pick 20 (.t 17) (.t 19) (.c (.d (.b false))),
    .kill [14, 15, 16, 17, 18, 19],
    .mv 21 (.t 20),
    .gd 21 true (some 22) (.mv 22 (.t 0)),
    .gd 21 true (some 23) (.bin 23 .neq .num (.t 22) (.c (.d (.s [46])))),
    .pick 24 (.t 21) (.t 23) (.c (.d (.b false))),
    .mv 25 (.t 24),
    .kill [20, 21, 22, 23, 24],
    .gd 25 true (some 26) (.mv 26 (.t 0)),
    .gd 25 true (some 27) (.bin 27 .neq .num (.t 26) (.c (.d (.s [46, 46])))),
    .pick 28 (.t 25) (.t 27) (.c (.d (.b false))),
    .mv 2 (.t 28),
    .keep [2]])
  (.ret)))⟩
def sl2Free_m : Fn := ⟨1, [.t 2], false,
  .seq (.r [.mv 2 (.c (.d (.b false))),
    .kill [2]])
  (.seq (.r [.mv 3 (.t 0),
    .call 4 true [] (.c (.clo sl1Small [])) [(.t 3)],
    .mv 5 (.t 4),
    .gd 5 false (some 6) (.mv 6 (.t 0)),
    .gd 5 false (some 7) (.call 7 true [] (.c (.clo sl1Large [])) [(.t 6)]),
    .pick 8 (.t 5) (.c (.d (.b true))) (.t 7),
    .kill [3, 4, 5, 6, 7],
    .mv 9 (.t 8),
    .gd 9 false (some 10) (.mv 10 (.t 0)),
    .gd 9 false (some 11) (.call 11 true [] (.c (.clo sl1Digit [])) [(.t 10)]),
    .pick 12 (.t 9) (.c (.d (.b true))) (.t 11),
    .mv 13 (.t 12),
    .kill [8, 9, 10, 11, 12],
    .gd 13 false (some 14) (.mv 14 (.t 0)),
    .gd 13 false (some 15) (.bin 15 .eql .num (.t 14) (.c (.d (.u 45)))),
    .pick 16 (.t 13) (.c (.d (.b true))) (.t 15),
    .mv 17 (.t 16),
    .gd 17 false (some 18) (.mv 18 (.t 0)),
    .gd 17 false (some 19) (.bin 19 .eql .num (.t 18) (.c (.d (.u 46)))),
    .kill [13, 14, 15, 16, 18],
    .pick 20 (.t 17) (.c (.d (.b true))) (.t 19),
    .mv 21 (.t 20),
    .gd 21 false (some 22) (.mv 22 (.t 0)),
    .gd 21 false (some 23) (.bin 23 .eql .num (.t 22) (.c (.d (.u 95)))),
    .pick 24 (.t 21) (.c (.d (.b true))) (.t 23),
    .kill [17, 19, 20, 21, 22, 23],
    .mv 25 (.t 24),
    .gd 25 false (some 26) (.mv 26 (.t 0)),
    .gd 25 false (some 27) (.bin 27 .eql .num (.t 26) (.c (.d (.u 126)))),
    .pick 28 (.t 25) (.c (.d (.b true))) (.t 27),
    .kill [0, 24, 25, 26, 27],
    .mv 2 (.t 28),
    .keep [2]])
  (.ret))⟩
def sl2Digit_m : Fn := ⟨1, [.t 2], false,
  .seq (.r [.mv 2 (.c (.d (.u 0))),
    .kill [2]])
  (.seq (.seq (.r [.mv 3 (.t 0),
    .bin 4 .lss .num (.t 3) (.c (.d (.i .i64 10))),
    .kill [3]])
  (.cond (.t 4)
    (.pre [.kill [4]] (.seq (.r [.mv 5 (.t 0),
      .bin 6 .add .num (.c (.d (.i .i64 48))) (.t 5),
      .cvi 7 .u8 (.t 6),
      .mv 2 (.t 7),
      .keep [2]])
    (.ret)))
    (.pre [.kill [4]] (.skip))))
  (.seq (.r [.mv 8 (.t 0),
    .bin 9 .add .num (.c (.d (.i .i64 65))) (.t 8),
    .bin 10 .sub .num (.t 9) (.c (.d (.i .i64 10))),
    .cvi 11 .u8 (.t 10),
    .mv 2 (.t 11),
    .keep [2]])
  (.ret)))⟩
def iNameOk_m : Fn := ⟨1, [.t 2], false,
  .seq (.r [.mv 2 (.c (.d (.b false))),
    .kill [2]])
  (.seq (.r [.mv 3 (.t 0),
    .lns 4 (.t 3),
    .call 5 true [] (.c (.clo iin [])) [(.t 4), (.c (.d (.i .i64 1))), (.c (.d (.i .i64 8)))],
    .mv 6 (.t 5),
    .gd 6 true (some 7) (.mv 7 (.t 0)),
    .gd 6 true (some 8) (.call 8 true [] (.c (.clo iPlain [])) [(.t 7)]),
    .pick 9 (.t 6) (.t 8) (.c (.d (.b false))),
    .kill [3, 4, 5, 6, 7, 8],
    .mv 10 (.t 9),
    .gd 10 true (some 11) (.mv 11 (.t 0)),
    .gd 10 true (some 12) (.call 12 true [] (.c (.clo x_strings_Contains [])) [(.t 11), (.c (.d (.s [47])))]),
    .gd 10 true (some 13) (.not 13 (.t 12)),
    .pick 14 (.t 10) (.t 13) (.c (.d (.b false))),
    .kill [9, 10, 11, 12, 13],
    .mv 15 (.t 14),
    .gd 15 true (some 16) (.mv 16 (.t 0)),
    .gd 15 true (some 17) (.bin 17 .neq .num (.t 16) (.c (.d (.s [46])))),
    .pick 18 (.t 15) (.t 17) (.c (.d (.b false))),
    .mv 19 (.t 18),
    .kill [14, 15, 16, 17, 18],
    .gd 19 true (some 20) (.mv 20 (.t 0)),
    .gd 19 true (some 21) (.bin 21 .neq .num (.t 20) (.c (.d (.s [46, 46])))),
    .pick 22 (.t 19) (.t 21) (.c (.d (.b false))),
    .mv 2 (.t 22),
    .keep [2]])
  (.ret))⟩
def iisLarge_m : Fn := ⟨1, [.t 2], false,
  .seq (.r [.mv 2 (.c (.d (.b false))),
    .kill [2]])
  (.seq (.r [.mv 3 (.t 0),
    .bin 4 .geq .num (.t 3) (.c (.d (.u 65))),
    .mv 5 (.t 4),
    .gd 5 true (some 6) (.mv 6 (.t 0)),
    .gd 5 true (some 7) (.bin 7 .leq .num (.t 6) (.c (.d (.u 90)))),
    .pick 8 (.t 5) (.t 7) (.c (.d (.b false))),
    .kill [0, 3, 4, 5, 6, 7],
    .mv 2 (.t 8),
    .keep [2]])
  (.ret))⟩
def iisSmall_m : Fn := ⟨1, [.t 2], false,
  .seq (.r [.mv 2 (.c (.d (.b false))),
    .kill [2]])
  (.seq (.r [.mv 3 (.t 0),
    .bin 4 .geq .num (.t 3) (.c (.d (.u 97))),
    .mv 5 (.t 4),
    .gd 5 true (some 6) (.mv 6 (.t 0)),
    .gd 5 true (some 7) (.bin 7 .leq .num (.t 6) (.c (.d (.u 122)))),
    .pick 8 (.t 5) (.t 7) (.c (.d (.b false))),
    .kill [0, 3, 4, 5, 6, 7],
    .mv 2 (.t 8),
    .keep [2]])
  (.ret))⟩
def iisDigit_m : Fn := ⟨1, [.t 2], false,
  .seq (.r [.mv 2 (.c (.d (.b false))),
    .kill [2]])
  (.seq (.r [.mv 3 (.t 0),
    .bin 4 .geq .num (.t 3) (.c (.d (.u 48))),
    .mv 5 (.t 4),
    .gd 5 true (some 6) (.mv 6 (.t 0)),
    .gd 5 true (some 7) (.bin 7 .leq .num (.t 6) (.c (.d (.u 57)))),
    .pick 8 (.t 5) (.t 7) (.c (.d (.b false))),
    .kill [0, 3, 4, 5, 6, 7],
    .mv 2 (.t 8),
    .keep [2]])
  (.ret))⟩
def sl1In_m : Fn := ⟨3, [.t 6], false,
  .seq (.r [.mv 6 (.c (.d (.b false))),
    .kill [6]])
  (.seq (.r [.mv 7 (.t 0),
    .mv 8 (.t 1),
    .bin 9 .geq .num (.t 7) (.t 8),
    .mv 10 (.t 9),
    .gd 10 true (some 11) (.mv 11 (.t 0)),
    .kill [0, 1, 7, 8, 9],
    .gd 10 true (some 12) (.mv 12 (.t 2)),
    .gd 10 true (some 13) (.bin 13 .leq .num (.t 11) (.t 12)),
    .pick 14 (.t 10) (.t 13) (.c (.d (.b false))),
    .kill [2, 10, 11, 12, 13],
    .mv 6 (.t 14),
    .keep [6]])
  (.ret))⟩
/-- live: [0, 3]; objects: [] -/
def sPlain_l0 : C :=
  .seq (.seq (.r [.mv 4 (.t 3),
      .mv 5 (.t 0),
      .lns 6 (.t 5),
      .bin 7 .lss .num (.t 4) (.t 6),
      .kill [4, 5, 6]])
    (.cond (.t 7)
      (.pre [.kill [7]] (.skip))
      (.pre [.keep []] (.ex 0))))
    (.seq (.blk 1 (.seq (.r [.mv 10 (.t 0),
      .mv 11 (.t 3),
      .ix 12 (.t 10) (.t 11),
      .cvi 13 .i64 (.t 12),
      .call 14 true [] (.c (.clo sl1In [])) [(.t 13), (.c (.d (.i .i64 32))), (.c (.d (.i .i64 126)))],
      .not 15 (.t 14),
      .keep [15, 3, 0]])
    (.cond (.t 15)
      (.pre [.keep []] (.seq (.r [.mv 2 (.c (.d (.b false)))])
      (.ret)))
      (.pre [.kill [15]] (.skip)))))
    (.r [.mv 8 (.t 3),
      .bin 9 .add .num (.t 8) (.c (.d (.i .i64 1))),
      .mv 3 (.t 9),
      .kill [8, 9]]))
def sPlain_m : Fn := ⟨1, [.t 2], false,
  .seq (.r [.mv 2 (.c (.d (.b false))),
    .kill [2]])
  (.seq (.seq (.r [.mv 3 (.c (.d (.i .i64 0)))])
  (.blk 0 (.pre [.keep [3, 0]] (.loop sPlain_l0))))
  (.seq (.r [.mv 2 (.c (.d (.b true)))])
  (.ret)))⟩
def sl1Large_m : Fn := ⟨1, [.t 2], false,
  .seq (.r [.mv 2 (.c (.d (.b false))),
    .kill [2]])
  (.seq (.r [.mv 3 (.t 0),
    .cvi 4 .i64 (.t 3),
    .call 5 true [] (.c (.clo sl1In [])) [(.t 4), (.c (.d (.i .i64 65))), (.c (.d (.i .i64 90)))],
    .mv 2 (.t 5),
    .keep [2]])
  (.ret))⟩
def sl1Small_m : Fn := ⟨1, [.t 2], false,
  .seq (.r [.mv 2 (.c (.d (.b false))),
    .kill [2]])
  (.seq (.r [.mv 3 (.t 0),
    .cvi 4 .i64 (.t 3),
    .call 5 true [] (.c (.clo sl1In [])) [(.t 4), (.c (.d (.i .i64 97))), (.c (.d (.i .i64 122)))],
    .mv 2 (.t 5),
    .keep [2]])
  (.ret))⟩
def sl1Digit_m : Fn := ⟨1, [.t 2], false,
  .seq (.r [.mv 2 (.c (.d (.b false))),
    .kill [2]])
  (.seq (.r [.mv 3 (.t 0),
    .cvi 4 .i64 (.t 3),
    .call 5 true [] (.c (.clo sl1In [])) [(.t 4), (.c (.d (.i .i64 48))), (.c (.d (.i .i64 57)))],
    .mv 2 (.t 5),
    .keep [2]])
  (.ret))⟩
def iin_m : Fn := ⟨3, [.t 6], false,
  .seq (.r [.mv 6 (.c (.d (.b false))),
    .kill [6]])
  (.seq (.r [.mv 7 (.t 0),
    .mv 8 (.t 1),
    .bin 9 .geq .num (.t 7) (.t 8),
    .mv 10 (.t 9),
    .gd 10 true (some 11) (.mv 11 (.t 0)),
    .kill [0, 1, 7, 8, 9],
    .gd 10 true (some 12) (.mv 12 (.t 2)),
    .gd 10 true (some 13) (.bin 13 .leq .num (.t 11) (.t 12)),
    .pick 14 (.t 10) (.t 13) (.c (.d (.b false))),
    .kill [2, 10, 11, 12, 13],
    .mv 6 (.t 14),
    .keep [6]])
  (.ret))⟩
/-- live: [0, 3]; objects: [] -/
def iPlain_l0 : C :=
  .seq (.seq (.r [.mv 4 (.t 3),
      .mv 5 (.t 0),
      .lns 6 (.t 5),
      .bin 7 .lss .num (.t 4) (.t 6),
      .kill [4, 5, 6]])
    (.cond (.t 7)
      (.pre [.kill [7]] (.skip))
      (.pre [.keep []] (.ex 0))))
    (.seq (.blk 1 (.seq (.r [.mv 10 (.t 0),
      .mv 11 (.t 3),
      .ix 12 (.t 10) (.t 11),
      .call 13 true [] (.c (.clo iisPlain [])) [(.t 12)],
      .not 14 (.t 13),
      .keep [14, 3, 0]])
    (.cond (.t 14)
      (.pre [.keep []] (.seq (.r [.mv 2 (.c (.d (.b false)))])
      (.ret)))
      (.pre [.kill [14]] (.skip)))))
    (.r [.mv 8 (.t 3),
      .bin 9 .add .num (.t 8) (.c (.d (.i .i64 1))),
      .mv 3 (.t 9),
      .kill [8, 9]]))
def iPlain_m : Fn := ⟨1, [.t 2], false,
  .seq (.r [.mv 2 (.c (.d (.b false))),
    .kill [2]])
  (.seq (.seq (.r [.mv 3 (.c (.d (.i .i64 0)))])
  (.blk 0 (.pre [.keep [3, 0]] (.loop iPlain_l0))))
  (.seq (.r [.mv 2 (.c (.d (.b true)))])
  (.ret)))⟩
def iisPlain_m : Fn := ⟨1, [.t 2], false,
  .seq (.r [.mv 2 (.c (.d (.b false))),
    .kill [2]])
  (.seq (.r [.mv 3 (.t 0),
    .bin 4 .geq .num (.t 3) (.c (.d (.u 32))),
    .mv 5 (.t 4),
    .gd 5 true (some 6) (.mv 6 (.t 0)),
    .gd 5 true (some 7) (.bin 7 .leq .num (.t 6) (.c (.d (.u 126)))),
    .pick 8 (.t 5) (.t 7) (.c (.d (.b false))),
    .kill [0, 3, 4, 5, 6, 7],
    .mv 2 (.t 8),
    .keep [2]])
  (.ret))⟩
def tabL : List (Nat × Fn) := [(wFnExactAskFor, wFnExactAskFor_m), (weqReq, weqReq_m), (wszCli, wszCli_m), (wszStringS, wszStringS_m), (sAskFor, sAskFor_m), (wtoCli, wtoCli_m), (wtoStringS, wtoStringS_m), (iAskFor, iAskFor_m), (weqCli, weqCli_m), (weqStringS, weqStringS_m), (wmarkCli, wmarkCli_m), (wmarkStringS, wmarkStringS_m), (wmarkReq, wmarkReq_m), (wheldReq, wheldReq_m), (weqHeadS, weqHeadS_m), (wszPageS, wszPageS_m), (sPathText, sPathText_m), (sl21At, sl21At_m), (wtoPageS, wtoPageS_m), (iPathText, iPathText_m), (ipageAt, ipageAt_m), (weqPageS, weqPageS_m), (wmarkPageS, wmarkPageS_m), (wmarkText, wmarkText_m), (wmarkHeadS, wmarkHeadS_m), (wheldHeadS, wheldHeadS_m), (weqHead, weqHead_m), (wszPage, wszPage_m), (sPathOk, sPathOk_m), (sQuote, sQuote_m), (sSamePath, sSamePath_m), (wtoPage, wtoPage_m), (iPathOk, iPathOk_m), (iQuote, iQuote_m), (iSamePath, iSamePath_m), (weqPage, weqPage_m), (sNameOk, sNameOk_m), (sl2Free, sl2Free_m), (sl2Digit, sl2Digit_m), (iNameOk, iNameOk_m), (iisLarge, iisLarge_m), (iisSmall, iisSmall_m), (iisDigit, iisDigit_m), (sl1In, sl1In_m), (sPlain, sPlain_m), (sl1Large, sl1Large_m), (sl1Small, sl1Small_m), (sl1Digit, sl1Digit_m), (iin, iin_m), (iPlain, iPlain_m), (iisPlain, iisPlain_m)]
end Go.Proofs.YtmccpbabpnffcaaK
