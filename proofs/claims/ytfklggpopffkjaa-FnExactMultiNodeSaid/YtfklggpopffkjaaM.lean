import Derived.Test.YtfklggpopffkjaaJ24
import Derived.Test.YtfklggpopffkjaaProg
import Derived.KernelRfl
set_option linter.unusedVariables false
set_option linter.unusedSimpArgs false
namespace Go.Proofs.YtfklggpopffkjaaK
open Go.RowKit
def wFnExactMultiNode : Nat := 4
def wszItemS : Nat := 12
def wszPropS : Nat := 13
def sMultiNode : Nat := 14
def wtoItemS : Nat := 15
def wtoPropS : Nat := 16
def iMultiNode : Nat := 17
def weqNode : Nat := 18
def weqItemS : Nat := 19
def weqPropS : Nat := 20
def wmarkItemS : Nat := 21
def wmarkPropS : Nat := 22
def wmarkNode : Nat := 23
def wheldNode : Nat := 24
def wszItem : Nat := 53
def wszProp : Nat := 54
def sl18Dav : Nat := 55
def sPathText : Nat := 56
def wtoItem : Nat := 57
def wtoProp : Nat := 58
def idavNode : Nat := 59
def itextNode : Nat := 60
def iPathText : Nat := 61
def weqNodeS : Nat := 62
def weqItem : Nat := 63
def weqProp : Nat := 64
def wmarkStringS : Nat := 65
def wmarkText : Nat := 66
def wmarkNodeS : Nat := 67
def wheldNodeS : Nat := 68
def wszStringS : Nat := 107
def sPathOk : Nat := 108
def sQuote : Nat := 109
def wtoStringS : Nat := 110
def iPathOk : Nat := 111
def iQuote : Nat := 112
def weqStringS : Nat := 114
def sNameOk : Nat := 151
def sl2Free : Nat := 152
def sl2Digit : Nat := 153
def iNameOk : Nat := 154
def iisSmall : Nat := 155
def iisLarge : Nat := 156
def iisDigit : Nat := 157
def sl1In : Nat := 38
def sPlain : Nat := 172
def sl1Small : Nat := 174
def sl1Large : Nat := 175
def sl1Digit : Nat := 176
def iin : Nat := 40
def iPlain : Nat := 169
def iisPlain : Nat := 185
def x_strings_Join : Nat := 113
def x_strings_IndexByte : Nat := 158
def x_strings_Contains : Nat := 177
abbrev TItem : T := .pr (.sl .str) .str
abbrev TProp : T := .pr .str (.pr .str .str)
def wFnExactMultiNode_m : Fn := ⟨2, [.t 4], false,
  .seq (.r [.mv 4 (.c (.d (.b false))),
    .kill [4]])
  (.seq (.r [.mv 5 (.c (.d (.i .i64 1048576)))])
  (.seq (.r [.mv 14 (.t 0),
    .mv 15 (.t 5),
    .call 16 true [] (.c (.clo wszItemS [])) [(.t 14), (.t 15)],
    .mv 5 (.t 16),
    .kill [14, 15, 16]])
  (.seq (.seq (.r [.mv 17 (.t 5),
    .bin 18 .lss .num (.t 17) (.c (.d (.i .i64 0))),
    .kill [17]])
  (.cond (.t 18)
    (.pre [.keep []] (.seq (.r [.mv 4 (.c (.d (.b true)))])
    (.ret)))
    (.pre [.kill [18]] (.skip))))
  (.seq (.r [.mv 19 (.t 1),
    .mv 20 (.t 5),
    .call 21 true [] (.c (.clo wszPropS [])) [(.t 19), (.t 20)],
    .mv 5 (.t 21),
    .kill [19, 20, 21]])
  (.seq (.seq (.r [.mv 22 (.t 5),
    .bin 23 .lss .num (.t 22) (.c (.d (.i .i64 0))),
    .kill [5, 22]])
  (.cond (.t 23)
    (.pre [.keep []] (.seq (.r [.mv 4 (.c (.d (.b true)))])
    (.ret)))
    (.pre [.kill [23]] (.skip))))
  (.seq (.r [.mv 24 (.t 0),
    .call 25 true [] (.c (.clo wtoItemS [])) [(.t 24)],
    .mv 26 (.t 1),
    .call 27 true [] (.c (.clo wtoPropS [])) [(.t 26)],
    .call 28 false [] (.c (.clo sMultiNode [])) [(.t 25), (.t 27)],
    .al 6 .node false,
    .st 4 (.t 6) (.t 28),
    .keep [6, 1, 0],
    .drop [29067]])
  (.seq (.r [.mv 29 (.t 0),
    .call 30 false [] (.c (.clo wtoItemS [])) [(.t 29)],
    .mv 7 (.t 30),
    .kill [29, 30]])
  (.seq (.r [.mv 31 (.t 1),
    .call 32 false [] (.c (.clo wtoPropS [])) [(.t 31)],
    .mv 8 (.t 32),
    .kill [31, 32]])
  (.seq (.r [.mv 33 (.t 7),
    .mv 34 (.t 8),
    .call 35 false [] (.c (.clo iMultiNode [])) [(.t 33), (.t 34)],
    .al 9 .node false,
    .stl 4 (.t 9) (.t 35),
    .kill [33, 34, 35]])
  (.seq (.seq (.r [.ld 36 4 true (.t 9),
    .ld 37 4 true (.t 6),
    .call 38 true [] (.c (.clo weqNode [])) [(.t 36), (.t 37)],
    .not 39 (.t 38),
    .kill [36, 37, 38]])
  (.cond (.t 39)
    (.pre [.keep [], .drop [70, 73, 31064, 33064, 36067]] (.seq (.r [.mv 4 (.c (.d (.b false)))])
    (.ret)))
    (.pre [.kill [39]] (.skip))))
  (.seq (.seq (.r [.mv 40 (.t 7),
    .mv 41 (.t 0),
    .call 42 true [] (.c (.clo wtoItemS [])) [(.t 41)],
    .call 43 true [] (.c (.clo weqItemS [])) [(.t 40), (.t 42)],
    .not 44 (.t 43),
    .kill [40, 41, 42, 43]])
  (.cond (.t 44)
    (.pre [.keep [], .drop [70, 73, 31064, 33064, 36067]] (.seq (.r [.mv 4 (.c (.d (.b false)))])
    (.ret)))
    (.pre [.kill [44]] (.skip))))
  (.seq (.seq (.r [.mv 45 (.t 8),
    .mv 46 (.t 1),
    .call 47 true [] (.c (.clo wtoPropS [])) [(.t 46)],
    .call 48 true [] (.c (.clo weqPropS [])) [(.t 45), (.t 47)],
    .not 49 (.t 48),
    .kill [45, 46, 47, 48]])
  (.cond (.t 49)
    (.pre [.keep [], .drop [70, 73, 31064, 33064, 36067]] (.seq (.r [.mv 4 (.c (.d (.b false)))])
    (.ret)))
    (.pre [.kill [49]] (.skip))))
  (.seq (.r [.mv 10 (.c (.d (.i .i64 1)))])
  (.seq (.r [.mv 50 (.t 7),
    .mv 51 (.t 10),
    .call 52 true [31064] (.c (.clo wmarkItemS [])) [(.t 50), (.t 51)],
    .mv 10 (.t 52),
    .kill [7, 50, 51, 52],
    .drop [31064]])
  (.seq (.r [.mv 53 (.t 8),
    .mv 54 (.t 10),
    .call 55 true [33064] (.c (.clo wmarkPropS [])) [(.t 53), (.t 54)],
    .mv 10 (.t 55),
    .kill [8, 53, 54, 55],
    .drop [33064]])
  (.seq (.seq (.r [.mv 56 (.t 10),
    .bin 57 .lss .num (.t 56) (.c (.d (.i .i64 0))),
    .mv 58 (.t 57),
    .gd 58 false (some 59) (.ld 59 4 true (.t 9)),
    .gd 58 false (some 60) (.ld 60 4 true (.t 6)),
    .gd 58 false (some 61) (.call 61 true [] (.c (.clo weqNode [])) [(.t 59), (.t 60)]),
    .kill [10, 56, 57, 59, 60],
    .gd 58 false (some 62) (.not 62 (.t 61)),
    .pick 63 (.t 58) (.c (.d (.b true))) (.t 62),
    .keep [63, 9, 6, 1, 0]])
  (.cond (.t 63)
    (.pre [.keep [], .drop [70, 73, 36067]] (.seq (.r [.mv 4 (.c (.d (.b false)))])
    (.ret)))
    (.pre [.kill [63]] (.skip))))
  (.seq (.r [.mv 11 (.c (.d (.i .i64 1)))])
  (.seq (.r [.ld 64 4 true (.t 9),
    .mv 65 (.t 11),
    .call 66 true [36067] (.c (.clo wmarkNode [])) [(.t 64), (.t 65)],
    .mv 11 (.t 66),
    .kill [64, 65, 66]])
  (.seq (.r [.mv 12 (.c (.d (.i .i64 1)))])
  (.seq (.r [.ld 67 4 true (.t 9),
    .mv 68 (.t 12),
    .call 69 true [] (.c (.clo wheldNode [])) [(.t 67), (.t 68)],
    .mv 12 (.t 69),
    .kill [67, 68, 69]])
  (.seq (.seq (.r [.mv 70 (.t 12),
    .bin 71 .lss .num (.t 70) (.c (.d (.i .i64 0))),
    .kill [70]])
  (.cond (.t 71)
    (.pre [.keep [], .drop [70, 73, 36067]] (.seq (.r [.mv 4 (.c (.d (.b false)))])
    (.ret)))
    (.pre [.kill [71]] (.skip))))
  (.seq (.seq (.r [.mv 72 (.t 12),
    .mv 73 (.t 11),
    .bin 74 .neq .num (.t 72) (.t 73),
    .kill [12, 72, 73]])
  (.cond (.t 74)
    (.pre [.keep [], .drop [70, 73, 36067]] (.seq (.r [.mv 4 (.c (.d (.b false)))])
    (.ret)))
    (.pre [.kill [74]] (.skip))))
  (.seq (.r [.mv 75 (.t 0),
    .call 76 true [] (.c (.clo wtoItemS [])) [(.t 75)],
    .mv 77 (.t 1),
    .call 78 true [] (.c (.clo wtoPropS [])) [(.t 77)],
    .call 79 false [] (.c (.clo iMultiNode [])) [(.t 76), (.t 78)],
    .kill [0, 1, 75, 76, 77, 78],
    .al 13 .node false,
    .st 4 (.t 13) (.t 79),
    .keep [13, 11, 9, 6],
    .drop [80067]])
  (.seq (.seq (.r [.ld 80 4 true (.t 13),
    .ld 81 4 true (.t 6),
    .call 82 true [] (.c (.clo weqNode [])) [(.t 80), (.t 81)],
    .not 83 (.t 82),
    .keep [83, 11, 9],
    .drop [70, 77]])
  (.cond (.t 83)
    (.pre [.keep [], .drop [73, 36067]] (.seq (.r [.mv 4 (.c (.d (.b false)))])
    (.ret)))
    (.pre [.kill [83]] (.skip))))
  (.seq (.r [.mv 12 (.c (.d (.i .i64 1)))])
  (.seq (.r [.ld 84 4 true (.t 9),
    .mv 85 (.t 12),
    .call 86 true [] (.c (.clo wheldNode [])) [(.t 84), (.t 85)],
    .mv 12 (.t 86),
    .keep [12, 11],
    .drop [73, 36067]])
  (.seq (.seq (.r [.mv 87 (.t 12),
    .bin 88 .lss .num (.t 87) (.c (.d (.i .i64 0))),
    .kill [87]])
  (.cond (.t 88)
    (.pre [.keep []] (.seq (.r [.mv 4 (.c (.d (.b false)))])
    (.ret)))
    (.pre [.kill [88]] (.skip))))
  (.seq (.seq (.r [.mv 89 (.t 12),
    .mv 90 (.t 11),
    .bin 91 .neq .num (.t 89) (.t 90),
    .keep [91]])
  (.cond (.t 91)
    (.pre [.keep []] (.seq (.r [.mv 4 (.c (.d (.b false)))])
    (.ret)))
    (.pre [.keep []] (.skip))))
  (.seq (.r [.mv 4 (.c (.d (.b true)))])
  (.ret))))))))))))))))))))))))))))))⟩
/-- live: [0, 1, 5]; objects: [] -/
def wszItemS_l0 : C :=
  .seq (.seq (.r [.mv 12 (.t 5),
      .mv 13 (.t 0),
      .len 14 (.t 13),
      .bin 15 .lss .num (.t 12) (.t 14),
      .kill [12, 13, 14]])
    (.cond (.t 15)
      (.pre [.kill [15]] (.skip))
      (.pre [.keep [1]] (.ex 0))))
    (.seq (.blk 1 (.seq (.r [.mv 18 (.t 0),
      .mv 19 (.t 5),
      .ia 20 2 (.t 18) (.t 19),
      .ld 21 2 true (.t 20),
      .mv 22 (.t 1),
      .call 23 true [] (.c (.clo wszItem [])) [(.t 21), (.t 22)],
      .kill [1, 18, 19, 20, 21, 22],
      .mv 1 (.t 23),
      .keep [5, 1, 0]])
    (.seq (.r [.mv 24 (.t 1),
      .bin 25 .lss .num (.t 24) (.c (.d (.i .i64 0))),
      .kill [24]])
    (.cond (.t 25)
      (.pre [.keep []] (.seq (.r [.mv 4 (.c (.d (.i .i64 (-1))))])
      (.ret)))
      (.pre [.kill [25]] (.skip))))))
    (.r [.mv 16 (.t 5),
      .bin 17 .add .num (.t 16) (.c (.d (.i .i64 1))),
      .mv 5 (.t 17),
      .kill [16, 17]]))
def wszItemS_m : Fn := ⟨2, [.t 4], false,
  .seq (.r [.mv 4 (.c (.d (.i .i64 0))),
    .kill [4]])
  (.seq (.r [.mv 6 (.t 1),
    .mv 7 (.t 0),
    .len 8 (.t 7),
    .bin 9 .sub .num (.t 6) (.t 8),
    .mv 1 (.t 9),
    .keep [1, 0]])
  (.seq (.seq (.r [.mv 10 (.t 1),
    .bin 11 .lss .num (.t 10) (.c (.d (.i .i64 0))),
    .kill [10]])
  (.cond (.t 11)
    (.pre [.keep []] (.seq (.r [.mv 4 (.c (.d (.i .i64 (-1))))])
    (.ret)))
    (.pre [.kill [11]] (.skip))))
  (.seq (.seq (.r [.mv 5 (.c (.d (.i .i64 0)))])
  (.blk 0 (.pre [.keep [5, 1, 0]] (.loop wszItemS_l0))))
  (.seq (.r [.mv 26 (.t 1),
    .mv 4 (.t 26),
    .keep [4]])
  (.ret)))))⟩
/-- live: [0, 1, 5]; objects: [] -/
def wszPropS_l0 : C :=
  .seq (.seq (.r [.mv 12 (.t 5),
      .mv 13 (.t 0),
      .len 14 (.t 13),
      .bin 15 .lss .num (.t 12) (.t 14),
      .kill [12, 13, 14]])
    (.cond (.t 15)
      (.pre [.kill [15]] (.skip))
      (.pre [.keep [1]] (.ex 0))))
    (.seq (.blk 1 (.seq (.r [.mv 18 (.t 0),
      .mv 19 (.t 5),
      .ia 20 3 (.t 18) (.t 19),
      .ld 21 3 true (.t 20),
      .mv 22 (.t 1),
      .call 23 true [] (.c (.clo wszProp [])) [(.t 21), (.t 22)],
      .kill [1, 18, 19, 20, 21, 22],
      .mv 1 (.t 23),
      .keep [5, 1, 0]])
    (.seq (.r [.mv 24 (.t 1),
      .bin 25 .lss .num (.t 24) (.c (.d (.i .i64 0))),
      .kill [24]])
    (.cond (.t 25)
      (.pre [.keep []] (.seq (.r [.mv 4 (.c (.d (.i .i64 (-1))))])
      (.ret)))
      (.pre [.kill [25]] (.skip))))))
    (.r [.mv 16 (.t 5),
      .bin 17 .add .num (.t 16) (.c (.d (.i .i64 1))),
      .mv 5 (.t 17),
      .kill [16, 17]]))
def wszPropS_m : Fn := ⟨2, [.t 4], false,
  .seq (.r [.mv 4 (.c (.d (.i .i64 0))),
    .kill [4]])
  (.seq (.r [.mv 6 (.t 1),
    .mv 7 (.t 0),
    .len 8 (.t 7),
    .bin 9 .sub .num (.t 6) (.t 8),
    .mv 1 (.t 9),
    .keep [1, 0]])
  (.seq (.seq (.r [.mv 10 (.t 1),
    .bin 11 .lss .num (.t 10) (.c (.d (.i .i64 0))),
    .kill [10]])
  (.cond (.t 11)
    (.pre [.keep []] (.seq (.r [.mv 4 (.c (.d (.i .i64 (-1))))])
    (.ret)))
    (.pre [.kill [11]] (.skip))))
  (.seq (.seq (.r [.mv 5 (.c (.d (.i .i64 0)))])
  (.blk 0 (.pre [.keep [5, 1, 0]] (.loop wszPropS_l0))))
  (.seq (.r [.mv 26 (.t 1),
    .mv 4 (.t 26),
    .keep [4]])
  (.ret)))))⟩
/-- live: [0, 1, 4, 5, 6, 7, 8, 9]; objects: [68, 69, 71, 72] -/
def sMultiNode_l0 : C :=
  .seq (.seq (.r [.mv 41 (.t 9),
          .mv 42 (.t 1),
          .len 43 (.t 42),
          .bin 44 .lss .num (.t 41) (.t 43),
          .kill [41, 42, 43]])
        (.cond (.t 44)
          (.pre [.kill [44]] (.skip))
          (.pre [.kill [9, 44]] (.ex 2))))
        (.seq (.blk 3 (.post (.r [.an [129] [] [] [] (.fa 47 (.t 8) 3),
          .an [129] [] [112] [72] (.ldm 48 (.t 47)),
          .an [112] [72] [] [] (.mv 49 (.t 1)),
          .an [112] [72] [] [] (.mv 50 (.t 9)),
          .an [112] [72] [] [] (.ia 51 3 (.t 49) (.t 50)),
          .an [112] [72] [] [] (.fa 52 (.t 51) 0),
          .an [112] [72] [] [] (.ld 53 1 false (.t 52)),
          .an [112] [72] [] [] (.mv 54 (.t 1)),
          .an [112] [72] [] [] (.mv 55 (.t 9)),
          .an [112] [72] [] [] (.ia 56 3 (.t 54) (.t 55)),
          .an [112] [72] [] [] (.fa 57 (.t 56) 1),
          .an [112] [72] [] [] (.ld 58 1 false (.t 57)),
          .an [112] [72] [] [] (.mv 59 (.t 1)),
          .an [112] [72] [] [] (.mv 60 (.t 9)),
          .an [112] [72] [] [] (.ia 61 3 (.t 59) (.t 60)),
          .an [112] [72] [] [] (.fa 62 (.t 61) 2),
          .an [112] [72] [] [] (.ld 63 1 false (.t 62)),
          .an [112] [72] [] [] (.bd 64 [.d (.s []), .d (.s []), .d (.s []), .nil .node] [(0, 1, (.t 53)), (1, 1, (.t 58)), (2, 1, (.t 63))]),
          .an [112] [72] [129] [] (.bs 65 .node false 1 [.d (.s []), .d (.s []), .d (.s []), .nil .node] [(0, (.t 64))]),
          .an [] [] [112, 130] [72, 129] (.app 66 .node false 72 (.t 48) (.t 65)),
          .fa 67 (.t 8) 3,
          .an [] [] [130] [72] (.st 1 (.t 67) (.t 66))]) [.keep [9, 8, 7, 6, 5, 4, 1, 0], .drop [112, 129, 130]]))
        (.r [.mv 45 (.t 9),
          .bin 46 .add .num (.t 45) (.c (.d (.i .i64 1))),
          .mv 9 (.t 46),
          .kill [45, 46]]))
/-- live: [0, 1, 4, 5, 6]; objects: [68, 69] -/
def sMultiNode_l1 : C :=
  .seq (.seq (.r [.mv 11 (.t 6),
      .mv 12 (.t 0),
      .len 13 (.t 12),
      .bin 14 .lss .num (.t 11) (.t 13),
      .kill [11, 12, 13]])
    (.cond (.t 14)
      (.pre [.kill [14]] (.skip))
      (.pre [.keep [5, 4]] (.ex 0))))
    (.seq (.blk 1 (.seq (.r [.call 17 false [] (.c (.clo sl18Dav [])) [(.c (.d (.s [114, 101, 115, 112, 111, 110, 115, 101]))), (.c (.d (.s [])))],
      .al 7 .node false,
      .st 4 (.t 7) (.t 17),
      .kill [17],
      .drop [18067]])
    (.seq (.post (.r [.mv 18 (.t 0),
      .mv 19 (.t 6),
      .ia 20 2 (.t 18) (.t 19),
      .fa 21 (.t 20) 0,
      .ld 22 1 false (.t 21),
      .call 23 true [] (.c (.clo sPathText [])) [(.t 22)],
      .an [] [] [25064] [] (.call 24 false [] (.c (.clo sl18Dav [])) [(.c (.d (.s [104, 114, 101, 102]))), (.t 23)]),
      .an [25064] [] [] [] (.mv 25 (.t 0)),
      .an [25064] [] [] [] (.mv 26 (.t 6)),
      .an [25064] [] [] [] (.ia 27 2 (.t 25) (.t 26)),
      .an [25064] [] [] [] (.fa 28 (.t 27) 1),
      .an [25064] [] [] [] (.ld 29 1 false (.t 28)),
      .an [] [] [31064] [] (.call 30 false [] (.c (.clo sl18Dav [])) [(.c (.d (.s [116, 97, 103]))), (.t 29)]),
      .an [] [] [95, 25064, 31064] [] (.bs 31 .node false 2 [.d (.s []), .d (.s []), .d (.s []), .nil .node] [(0, (.t 24)), (1, (.t 30))]),
      .fa 32 (.t 7) 3,
      .an [] [] [95] [71] (.st 1 (.t 32) (.t 31))]) [.keep [7, 6, 5, 4, 1, 0], .drop [95, 25067, 31067]])
    (.seq (.seq (.r [.mv 33 (.t 6),
      .bin 34 .eql .num (.t 33) (.c (.d (.i .i64 0))),
      .mv 35 (.t 34),
      .gd 35 true (some 36) (.mv 36 (.t 1)),
      .gd 35 true (some 37) (.len 37 (.t 36)),
      .gd 35 true (some 38) (.bin 38 .gtr .num (.t 37) (.c (.d (.i .i64 0)))),
      .pick 39 (.t 35) (.t 38) (.c (.d (.b false))),
      .kill [33, 34, 35, 36, 37, 38]])
    (.cond (.t 39)
      (.pre [.kill [39]] (.seq (.r [.call 40 false [] (.c (.clo sl18Dav [])) [(.c (.d (.s [112, 114, 111, 112]))), (.c (.d (.s [])))],
        .al 8 .node false,
        .st 4 (.t 8) (.t 40),
        .kill [40],
        .drop [41067]])
      (.seq (.seq (.r [.mv 9 (.c (.d (.i .i64 0)))])
      (.blk 2 (.pre [.keep [9, 8, 7, 6, 5, 4, 1, 0]] (.loop sMultiNode_l0))))
      (.r [.fa 68 (.t 7) 3,
        .ldm 69 (.t 68),
        .ldt 70 4 true (.t 8),
        .bs 71 .node false 1 [.d (.s []), .d (.s []), .d (.s []), .nil .node] [(0, (.t 70))],
        .app 72 .node false 72 (.t 69) (.t 71),
        .kill [8, 68, 69, 70, 71],
        .fa 73 (.t 7) 3,
        .st 1 (.t 73) (.t 72),
        .keep [7, 6, 5, 4, 1, 0],
        .drop [72, 133, 135, 136, 71067]]))))
      (.pre [.kill [39]] (.skip))))
    (.r [.fa 74 (.t 5) 3,
      .ldm 75 (.t 74),
      .ldt 76 4 true (.t 7),
      .bs 77 .node false 1 [.d (.s []), .d (.s []), .d (.s []), .nil .node] [(0, (.t 76))],
      .app 78 .node false 72 (.t 75) (.t 77),
      .kill [7, 74, 75, 76, 77],
      .fa 79 (.t 5) 3,
      .st 1 (.t 79) (.t 78),
      .keep [6, 5, 4, 1, 0],
      .drop [71, 139, 141, 142, 77067]])))))
    (.r [.mv 15 (.t 6),
      .bin 16 .add .num (.t 15) (.c (.d (.i .i64 1))),
      .mv 6 (.t 16),
      .kill [15, 16]]))
def sMultiNode_m : Fn := ⟨2, [.cell 4 4 true], false,
  .seq (.r [.al 4 .node false])
  (.seq (.r [.call 10 false [] (.c (.clo sl18Dav [])) [(.c (.d (.s [109, 117, 108, 116, 105, 115, 116, 97, 116, 117, 115]))), (.c (.d (.s [])))],
    .al 5 .node false,
    .st 4 (.t 5) (.t 10),
    .kill [10],
    .drop [11067]])
  (.seq (.seq (.r [.mv 6 (.c (.d (.i .i64 0)))])
  (.blk 0 (.pre [.keep [6, 5, 4, 1, 0]] (.loop sMultiNode_l1))))
  (.seq (.r [.ldt 80 4 true (.t 5),
    .st 4 (.t 4) (.t 80),
    .keep [4],
    .drop [69, 81067]])
  (.ret))))⟩
/-- live: [0, 3, 4]; objects: [71] -/
def wtoItemS_l0 : C :=
  .seq (.seq (.r [.mv 8 (.t 4),
      .mv 9 (.t 0),
      .len 10 (.t 9),
      .bin 11 .lss .num (.t 8) (.t 10),
      .kill [8, 9, 10]])
    (.cond (.t 11)
      (.pre [.kill [11]] (.skip))
      (.pre [.keep [3]] (.ex 0))))
    (.seq (.blk 1 (.r [.mv 14 (.t 3),
      .mv 15 (.t 4),
      .mv 16 (.t 0),
      .mv 17 (.t 4),
      .ia 18 2 (.t 16) (.t 17),
      .ld 19 2 true (.t 18),
      .call 20 false [] (.c (.clo wtoItem [])) [(.t 19)],
      .ia 21 2 (.t 14) (.t 15),
      .kill [14, 15, 16, 17, 18, 19],
      .st 2 (.t 21) (.t 20),
      .keep [4, 3, 0],
      .drop [21064]]))
    (.r [.mv 12 (.t 4),
      .bin 13 .add .num (.t 12) (.c (.d (.i .i64 1))),
      .mv 4 (.t 13),
      .kill [12, 13]]))
def wtoItemS_m : Fn := ⟨1, [.t 2], false,
  .seq (.r [.mv 2 (.c (.nil TItem)),
    .opn 2 2 false,
    .kill [2],
    .drop [66]])
  (.seq (.r [.mv 5 (.t 0),
    .len 6 (.t 5),
    .mk 7 TItem 40 (.t 6),
    .mv 3 (.t 7),
    .keep [3, 0]])
  (.seq (.seq (.r [.mv 4 (.c (.d (.i .i64 0)))])
  (.blk 0 (.pre [.keep [4, 3, 0]] (.loop wtoItemS_l0))))
  (.seq (.r [.mv 22 (.t 3),
    .mv 2 (.t 22),
    .ren 71 66,
    .keep [2],
    .drop [71]])
  (.ret))))⟩
/-- live: [0, 3, 4]; objects: [71] -/
def wtoPropS_l0 : C :=
  .seq (.seq (.r [.mv 8 (.t 4),
      .mv 9 (.t 0),
      .len 10 (.t 9),
      .bin 11 .lss .num (.t 8) (.t 10),
      .kill [8, 9, 10]])
    (.cond (.t 11)
      (.pre [.kill [11]] (.skip))
      (.pre [.keep [3]] (.ex 0))))
    (.seq (.blk 1 (.r [.mv 14 (.t 3),
      .mv 15 (.t 4),
      .mv 16 (.t 0),
      .mv 17 (.t 4),
      .ia 18 3 (.t 16) (.t 17),
      .ld 19 3 true (.t 18),
      .call 20 true [] (.c (.clo wtoProp [])) [(.t 19)],
      .ia 21 3 (.t 14) (.t 15),
      .kill [14, 15, 16, 17, 18, 19],
      .st 3 (.t 21) (.t 20),
      .keep [4, 3, 0]]))
    (.r [.mv 12 (.t 4),
      .bin 13 .add .num (.t 12) (.c (.d (.i .i64 1))),
      .mv 4 (.t 13),
      .kill [12, 13]]))
def wtoPropS_m : Fn := ⟨1, [.t 2], false,
  .seq (.r [.mv 2 (.c (.nil TProp)),
    .opn 2 2 false,
    .kill [2],
    .drop [66]])
  (.seq (.r [.mv 5 (.t 0),
    .len 6 (.t 5),
    .mk 7 TProp 48 (.t 6),
    .mv 3 (.t 7),
    .keep [3, 0]])
  (.seq (.seq (.r [.mv 4 (.c (.d (.i .i64 0)))])
  (.blk 0 (.pre [.keep [4, 3, 0]] (.loop wtoPropS_l0))))
  (.seq (.r [.mv 22 (.t 3),
    .mv 2 (.t 22),
    .ren 71 66,
    .keep [2],
    .drop [71]])
  (.ret))))⟩
/-- live: [1, 4, 5, 8, 9, 13, 14, 15, 37, 38, 39]; objects: [68, 69, 72, 73] -/
def iMultiNode_l0 : C :=
  .seq (.r [.bin 40 .lss .num (.t 39) (.t 38)])
        (.seq (.cond (.t 40)
          (.pre [.kill [40]] (.skip))
          (.pre [.kill [37, 38, 39, 40]] (.ex 2)))
        (.seq (.blk 3 (.seq (.r [.ia 41 3 (.t 37) (.t 39),
          .ld 42 3 true (.t 41),
          .al 11 TProp false,
          .st 3 (.t 11) (.t 42),
          .kill [41, 42]])
        (.r [.fa 43 (.t 9) 3,
          .ldm 44 (.t 43),
          .fa 45 (.t 11) 0,
          .ld 46 1 false (.t 45),
          .fa 47 (.t 11) 1,
          .ld 48 1 false (.t 47),
          .fa 49 (.t 11) 2,
          .ld 50 1 false (.t 49),
          .kill [11, 43, 45, 47, 49],
          .bd 51 [.d (.s []), .d (.s []), .d (.s []), .nil .node] [(0, 1, (.t 46)), (1, 1, (.t 48)), (2, 1, (.t 50))],
          .bs 52 .node false 1 [.d (.s []), .d (.s []), .d (.s []), .nil .node] [(0, (.t 51))],
          .app 53 .node false 72 (.t 44) (.t 52),
          .kill [44, 46, 48, 50, 51, 52],
          .fa 54 (.t 9) 3,
          .st 1 (.t 54) (.t 53),
          .keep [39, 38, 37, 15, 14, 13, 9, 8, 5, 4, 1],
          .drop [75, 108, 116, 117]])))
        (.r [.bin 55 .add .num (.t 39) (.c (.d (.i .i64 1))),
          .mv 39 (.t 55),
          .kill [55]])))
/-- live: [1, 4, 5, 13, 14, 15]; objects: [68, 69] -/
def iMultiNode_l1 : C :=
  .seq (.r [.bin 16 .lss .num (.t 15) (.t 14)])
    (.seq (.cond (.t 16)
      (.pre [.kill [16]] (.skip))
      (.pre [.keep [5, 4]] (.ex 0)))
    (.seq (.blk 1 (.seq (.r [.mv 17 (.t 15),
      .ia 18 2 (.t 13) (.t 15),
      .ld 19 2 true (.t 18),
      .al 7 TItem true,
      .mv 6 (.t 17),
      .st 2 (.t 7) (.t 19),
      .kill [17, 18, 19]])
    (.seq (.post (.r [.an [72] [] [] [] (.fa 20 (.t 7) 0),
      .an [72] [] [] [] (.ld 21 1 false (.t 20)),
      .an [72] [] [23064] [] (.call 22 true [] (.c (.clo iPathText [])) [(.t 21)]),
      .an [72] [] [24064] [] (.call 23 false [] (.c (.clo itextNode [])) [(.c (.d (.s [104, 114, 101, 102]))), (.t 22)]),
      .an [72, 23064, 24064] [] [] [] (.fa 24 (.t 7) 1),
      .an [72, 23064, 24064] [] [] [] (.ld 25 1 false (.t 24)),
      .an [72] [] [27064] [] (.call 26 false [] (.c (.clo itextNode [])) [(.c (.d (.s [116, 97, 103]))), (.t 25)]),
      .an [72] [] [91, 24064, 27064] [] (.bs 27 .node false 2 [.d (.s []), .d (.s []), .d (.s []), .nil .node] [(0, (.t 23)), (1, (.t 26))]),
      .an [72] [] [91, 29064] [91] (.call 28 false [91] (.c (.clo idavNode [])) [(.c (.d (.s [114, 101, 115, 112, 111, 110, 115, 101]))), (.t 27)]),
      .an [91, 23064, 24064, 27064, 29064] [91] [72] [] (.al 8 .node false),
      .an [] [] [29064] [72] (.st 4 (.t 8) (.t 28))]) [.keep [15, 14, 13, 8, 6, 5, 4, 1], .drop [71, 91, 24067, 27067, 29067]])
    (.seq (.seq (.r [.mv 29 (.t 6),
      .bin 30 .eql .num (.t 29) (.c (.d (.i .i64 0))),
      .mv 31 (.t 30),
      .gd 31 true (some 32) (.mv 32 (.t 1)),
      .gd 31 true (some 33) (.len 33 (.t 32)),
      .gd 31 true (some 34) (.bin 34 .gtr .num (.t 33) (.c (.d (.i .i64 0)))),
      .kill [6, 29, 30, 32, 33],
      .pick 35 (.t 31) (.t 34) (.c (.d (.b false))),
      .kill [6, 29, 30, 31, 32, 33, 34]])
    (.cond (.t 35)
      (.pre [.kill [35]] (.seq (.r [.call 36 false [] (.c (.clo idavNode [])) [(.c (.d (.s [112, 114, 111, 112]))), (.c (.nil .node))],
        .al 9 .node false,
        .st 4 (.t 9) (.t 36),
        .kill [36],
        .drop [37067]])
      (.seq (.seq (.r [.mv 37 (.t 1),
        .len 38 (.t 37),
        .mv 39 (.c (.d (.i .i64 0)))])
      (.blk 2 (.pre [.keep [39, 38, 37, 15, 14, 13, 9, 8, 5, 4, 1]] (.loop iMultiNode_l0))))
      (.r [.fa 56 (.t 8) 3,
        .ldm 57 (.t 56),
        .ldt 58 4 true (.t 9),
        .bs 59 .node false 1 [.d (.s []), .d (.s []), .d (.s []), .nil .node] [(0, (.t 58))],
        .app 60 .node false 72 (.t 57) (.t 59),
        .kill [9, 56, 57, 58, 59],
        .fa 61 (.t 8) 3,
        .st 1 (.t 61) (.t 60),
        .kill [9, 56, 57, 58, 59, 60, 61],
        .drop [73, 121, 123, 124, 59067]]))))
      (.pre [.kill [35]] (.skip))))
    (.r [.fa 62 (.t 5) 3,
      .ldm 63 (.t 62),
      .ldt 64 4 true (.t 8),
      .bs 65 .node false 1 [.d (.s []), .d (.s []), .d (.s []), .nil .node] [(0, (.t 64))],
      .app 66 .node false 72 (.t 63) (.t 65),
      .kill [8, 62, 63, 64, 65],
      .fa 67 (.t 5) 3,
      .st 1 (.t 67) (.t 66),
      .keep [15, 14, 13, 5, 4, 1],
      .drop [72, 127, 129, 130, 65067]])))))
    (.r [.bin 68 .add .num (.t 15) (.c (.d (.i .i64 1))),
      .mv 15 (.t 68),
      .kill [68]])))
def iMultiNode_m : Fn := ⟨2, [.cell 4 4 true], false,
  .seq (.r [.al 4 .node false])
  (.seq (.r [.call 12 false [] (.c (.clo idavNode [])) [(.c (.d (.s [109, 117, 108, 116, 105, 115, 116, 97, 116, 117, 115]))), (.c (.nil .node))],
    .al 5 .node false,
    .st 4 (.t 5) (.t 12),
    .kill [12],
    .drop [13067]])
  (.seq (.seq (.r [.mv 13 (.t 0),
    .len 14 (.t 13),
    .mv 15 (.c (.d (.i .i64 0))),
    .kill [0]])
  (.blk 0 (.pre [.keep [15, 14, 13, 5, 4, 1]] (.loop iMultiNode_l1))))
  (.seq (.r [.ldt 69 4 true (.t 5),
    .st 4 (.t 4) (.t 69),
    .keep [4],
    .drop [69, 70067]])
  (.ret))))⟩
def weqNode_m : Fn := ⟨2, [.t 4], false,
  .seq (.r [.bx 2 .node true (.t 0),
    .bx 3 .node true (.t 1),
    .mv 4 (.c (.d (.b false))),
    .keep [3, 2]])
  (.seq (.seq (.r [.fa 5 (.t 2) 0,
    .ld 6 1 false (.t 5),
    .fa 7 (.t 3) 0,
    .ld 8 1 false (.t 7),
    .bin 9 .neq .num (.t 6) (.t 8),
    .keep [9, 3, 2]])
  (.cond (.t 9)
    (.pre [.keep [], .drop [66, 67]] (.seq (.r [.mv 4 (.c (.d (.b false)))])
    (.ret)))
    (.pre [.kill [9]] (.skip))))
  (.seq (.seq (.r [.fa 10 (.t 2) 1,
    .ld 11 1 false (.t 10),
    .fa 12 (.t 3) 1,
    .ld 13 1 false (.t 12),
    .bin 14 .neq .num (.t 11) (.t 13),
    .keep [14, 3, 2]])
  (.cond (.t 14)
    (.pre [.keep [], .drop [66, 67]] (.seq (.r [.mv 4 (.c (.d (.b false)))])
    (.ret)))
    (.pre [.kill [14]] (.skip))))
  (.seq (.seq (.r [.fa 15 (.t 2) 2,
    .ld 16 1 false (.t 15),
    .fa 17 (.t 3) 2,
    .ld 18 1 false (.t 17),
    .bin 19 .neq .num (.t 16) (.t 18),
    .keep [19, 3, 2]])
  (.cond (.t 19)
    (.pre [.keep [], .drop [66, 67]] (.seq (.r [.mv 4 (.c (.d (.b false)))])
    (.ret)))
    (.pre [.kill [19]] (.skip))))
  (.seq (.seq (.r [.fa 20 (.t 2) 3,
    .ld 21 1 false (.t 20),
    .fa 22 (.t 3) 3,
    .ld 23 1 false (.t 22),
    .call 24 true [] (.c (.clo weqNodeS [])) [(.t 21), (.t 23)],
    .kill [2, 3, 20, 21, 22, 23],
    .not 25 (.t 24),
    .keep [25],
    .drop [66, 67]])
  (.cond (.t 25)
    (.pre [.keep []] (.seq (.r [.mv 4 (.c (.d (.b false)))])
    (.ret)))
    (.pre [.keep []] (.skip))))
  (.seq (.r [.mv 4 (.c (.d (.b true)))])
  (.ret))))))⟩
/-- live: [0, 1, 5]; objects: [] -/
def weqItemS_l0 : C :=
  .seq (.seq (.r [.mv 11 (.t 5),
      .mv 12 (.t 0),
      .len 13 (.t 12),
      .bin 14 .lss .num (.t 11) (.t 13),
      .kill [11, 12, 13]])
    (.cond (.t 14)
      (.pre [.kill [14]] (.skip))
      (.pre [.keep []] (.ex 0))))
    (.seq (.blk 1 (.seq (.post (.r [.mv 17 (.t 0),
      .mv 18 (.t 5),
      .ia 19 2 (.t 17) (.t 18),
      .ld 20 2 true (.t 19),
      .mv 21 (.t 1),
      .mv 22 (.t 5),
      .ia 23 2 (.t 21) (.t 22),
      .ld 24 2 true (.t 23),
      .call 25 true [] (.c (.clo weqItem [])) [(.t 20), (.t 24)],
      .not 26 (.t 25)]) [.keep [26, 5, 1, 0]])
    (.cond (.t 26)
      (.pre [.keep []] (.seq (.r [.mv 4 (.c (.d (.b false)))])
      (.ret)))
      (.pre [.kill [26]] (.skip)))))
    (.r [.mv 15 (.t 5),
      .bin 16 .add .num (.t 15) (.c (.d (.i .i64 1))),
      .mv 5 (.t 16),
      .kill [15, 16]]))
def weqItemS_m : Fn := ⟨2, [.t 4], false,
  .seq (.r [.mv 4 (.c (.d (.b false))),
    .kill [4]])
  (.seq (.seq (.r [.mv 6 (.t 0),
    .len 7 (.t 6),
    .mv 8 (.t 1),
    .len 9 (.t 8),
    .bin 10 .neq .num (.t 7) (.t 9),
    .keep [10, 1, 0]])
  (.cond (.t 10)
    (.pre [.keep []] (.seq (.r [.mv 4 (.c (.d (.b false)))])
    (.ret)))
    (.pre [.kill [10]] (.skip))))
  (.seq (.seq (.r [.mv 5 (.c (.d (.i .i64 0)))])
  (.blk 0 (.pre [.keep [5, 1, 0]] (.loop weqItemS_l0))))
  (.seq (.r [.mv 4 (.c (.d (.b true)))])
  (.ret))))⟩
/-- live: [0, 1, 5]; objects: [] -/
def weqPropS_l0 : C :=
  .seq (.seq (.r [.mv 11 (.t 5),
      .mv 12 (.t 0),
      .len 13 (.t 12),
      .bin 14 .lss .num (.t 11) (.t 13),
      .kill [11, 12, 13]])
    (.cond (.t 14)
      (.pre [.kill [14]] (.skip))
      (.pre [.keep []] (.ex 0))))
    (.seq (.blk 1 (.seq (.post (.r [.mv 17 (.t 0),
      .mv 18 (.t 5),
      .ia 19 3 (.t 17) (.t 18),
      .ld 20 3 true (.t 19),
      .mv 21 (.t 1),
      .mv 22 (.t 5),
      .ia 23 3 (.t 21) (.t 22),
      .ld 24 3 true (.t 23),
      .call 25 true [] (.c (.clo weqProp [])) [(.t 20), (.t 24)],
      .not 26 (.t 25)]) [.keep [26, 5, 1, 0]])
    (.cond (.t 26)
      (.pre [.keep []] (.seq (.r [.mv 4 (.c (.d (.b false)))])
      (.ret)))
      (.pre [.kill [26]] (.skip)))))
    (.r [.mv 15 (.t 5),
      .bin 16 .add .num (.t 15) (.c (.d (.i .i64 1))),
      .mv 5 (.t 16),
      .kill [15, 16]]))
def weqPropS_m : Fn := ⟨2, [.t 4], false,
  .seq (.r [.mv 4 (.c (.d (.b false))),
    .kill [4]])
  (.seq (.seq (.r [.mv 6 (.t 0),
    .len 7 (.t 6),
    .mv 8 (.t 1),
    .len 9 (.t 8),
    .bin 10 .neq .num (.t 7) (.t 9),
    .keep [10, 1, 0]])
  (.cond (.t 10)
    (.pre [.keep []] (.seq (.r [.mv 4 (.c (.d (.b false)))])
    (.ret)))
    (.pre [.kill [10]] (.skip))))
  (.seq (.seq (.r [.mv 5 (.c (.d (.i .i64 0)))])
  (.blk 0 (.pre [.keep [5, 1, 0]] (.loop weqPropS_l0))))
  (.seq (.r [.mv 4 (.c (.d (.b true)))])
  (.ret))))⟩
/-- live: [0, 1, 5]; objects: [0] -/
def wmarkItemS_l0 : C :=
  .seq (.seq (.r [.mv 6 (.t 5),
      .mv 7 (.t 0),
      .len 8 (.t 7),
      .bin 9 .lss .num (.t 6) (.t 8),
      .kill [6, 7, 8]])
    (.cond (.t 9)
      (.pre [.kill [9]] (.skip))
      (.pre [.keep [1]] (.ex 0))))
    (.seq (.blk 1 (.seq (.r [.mv 12 (.t 0),
      .mv 13 (.t 5),
      .ia 14 2 (.t 12) (.t 13),
      .fa 15 (.t 14) 0,
      .ldm 16 (.t 15),
      .mv 17 (.t 1),
      .kill [1, 12, 13, 14, 15],
      .call 18 true [80] (.c (.clo wmarkStringS [])) [(.t 16), (.t 17)],
      .cls 0 80,
      .mv 1 (.t 18),
      .keep [5, 1, 0],
      .drop [80]])
    (.seq (.r [.mv 19 (.t 0),
      .mv 20 (.t 5),
      .mv 21 (.t 1),
      .call 22 true [] (.c (.clo wmarkText [])) [(.t 21)],
      .ia 23 2 (.t 19) (.t 20),
      .fa 24 (.t 23) 1,
      .st 1 (.t 24) (.t 22),
      .keep [5, 1, 0]])
    (.r [.mv 25 (.t 1),
      .bin 26 .add .num (.t 25) (.c (.d (.i .i64 1))),
      .mv 1 (.t 26),
      .kill [25, 26]]))))
    (.r [.mv 10 (.t 5),
      .bin 11 .add .num (.t 10) (.c (.d (.i .i64 1))),
      .mv 5 (.t 11),
      .kill [10, 11]]))
def wmarkItemS_m : Fn := ⟨2, [.t 4], false,
  .seq (.r [.mv 4 (.c (.d (.i .i64 0))),
    .kill [4]])
  (.seq (.seq (.r [.mv 5 (.c (.d (.i .i64 0)))])
  (.blk 0 (.pre [.keep [5, 1, 0]] (.loop wmarkItemS_l0))))
  (.seq (.r [.mv 27 (.t 1),
    .mv 4 (.t 27),
    .keep [4]])
  (.ret)))⟩
/-- live: [0, 1, 5]; objects: [0] -/
def wmarkPropS_l0 : C :=
  .seq (.seq (.r [.mv 6 (.t 5),
      .mv 7 (.t 0),
      .len 8 (.t 7),
      .bin 9 .lss .num (.t 6) (.t 8),
      .kill [6, 7, 8]])
    (.cond (.t 9)
      (.pre [.kill [9]] (.skip))
      (.pre [.keep [1]] (.ex 0))))
    (.seq (.blk 1 (.seq (.r [.mv 12 (.t 0),
      .mv 13 (.t 5),
      .mv 14 (.t 1),
      .call 15 true [] (.c (.clo wmarkText [])) [(.t 14)],
      .ia 16 3 (.t 12) (.t 13),
      .fa 17 (.t 16) 0,
      .st 1 (.t 17) (.t 15),
      .keep [5, 1, 0]])
    (.seq (.r [.mv 18 (.t 1),
      .bin 19 .add .num (.t 18) (.c (.d (.i .i64 1))),
      .mv 1 (.t 19),
      .kill [18, 19]])
    (.seq (.r [.mv 20 (.t 0),
      .mv 21 (.t 5),
      .mv 22 (.t 1),
      .call 23 true [] (.c (.clo wmarkText [])) [(.t 22)],
      .ia 24 3 (.t 20) (.t 21),
      .fa 25 (.t 24) 1,
      .st 1 (.t 25) (.t 23),
      .keep [5, 1, 0]])
    (.seq (.r [.mv 26 (.t 1),
      .bin 27 .add .num (.t 26) (.c (.d (.i .i64 1))),
      .mv 1 (.t 27),
      .kill [26, 27]])
    (.seq (.r [.mv 28 (.t 0),
      .mv 29 (.t 5),
      .mv 30 (.t 1),
      .call 31 true [] (.c (.clo wmarkText [])) [(.t 30)],
      .ia 32 3 (.t 28) (.t 29),
      .fa 33 (.t 32) 2,
      .st 1 (.t 33) (.t 31),
      .keep [5, 1, 0]])
    (.r [.mv 34 (.t 1),
      .bin 35 .add .num (.t 34) (.c (.d (.i .i64 1))),
      .mv 1 (.t 35),
      .kill [34, 35]])))))))
    (.r [.mv 10 (.t 5),
      .bin 11 .add .num (.t 10) (.c (.d (.i .i64 1))),
      .mv 5 (.t 11),
      .kill [10, 11]]))
def wmarkPropS_m : Fn := ⟨2, [.t 4], false,
  .seq (.r [.mv 4 (.c (.d (.i .i64 0))),
    .kill [4]])
  (.seq (.seq (.r [.mv 5 (.c (.d (.i .i64 0)))])
  (.blk 0 (.pre [.keep [5, 1, 0]] (.loop wmarkPropS_l0))))
  (.seq (.r [.mv 36 (.t 1),
    .mv 4 (.t 36),
    .keep [4]])
  (.ret)))⟩
def wmarkNode_m : Fn := ⟨2, [.t 4], false,
  .seq (.r [.bxl 2 .node (.t 0),
    .mv 4 (.c (.d (.i .i64 0))),
    .kill [0, 4]])
  (.seq (.r [.fa 5 (.t 2) 3,
    .ld 6 1 false (.t 5),
    .mv 7 (.t 1),
    .call 8 true [0] (.c (.clo wmarkNodeS [])) [(.t 6), (.t 7)],
    .kill [1, 2, 5, 6, 7],
    .mv 1 (.t 8),
    .keep [1],
    .drop [66]])
  (.seq (.r [.mv 9 (.t 1),
    .mv 4 (.t 9),
    .keep [4]])
  (.ret)))⟩
def wheldNode_m : Fn := ⟨2, [.t 4], false,
  .seq (.r [.bx 2 .node true (.t 0),
    .mv 4 (.c (.d (.i .i64 0))),
    .kill [0, 4]])
  (.seq (.r [.fa 5 (.t 2) 3,
    .ld 6 1 false (.t 5),
    .mv 7 (.t 1),
    .call 8 true [] (.c (.clo wheldNodeS [])) [(.t 6), (.t 7)],
    .kill [1, 2, 5, 6, 7],
    .mv 1 (.t 8),
    .keep [1],
    .drop [66]])
  (.seq (.seq (.r [.mv 9 (.t 1),
    .bin 10 .lss .num (.t 9) (.c (.d (.i .i64 0))),
    .kill [9]])
  (.cond (.t 10)
    (.pre [.keep []] (.seq (.r [.mv 4 (.c (.d (.i .i64 (-1))))])
    (.ret)))
    (.pre [.kill [10]] (.skip))))
  (.seq (.r [.mv 11 (.t 1),
    .mv 4 (.t 11),
    .keep [4]])
  (.ret))))⟩
def wszItem_m : Fn := ⟨2, [.t 4], false,
  .seq (.r [.bx 2 TItem true (.t 0),
    .mv 4 (.c (.d (.i .i64 0))),
    .kill [0, 4]])
  (.seq (.r [.fa 5 (.t 2) 0,
    .ld 6 1 false (.t 5),
    .mv 7 (.t 1),
    .call 8 true [] (.c (.clo wszStringS [])) [(.t 6), (.t 7)],
    .mv 1 (.t 8),
    .keep [2, 1]])
  (.seq (.seq (.r [.mv 9 (.t 1),
    .bin 10 .lss .num (.t 9) (.c (.d (.i .i64 0))),
    .kill [9]])
  (.cond (.t 10)
    (.pre [.keep [], .drop [66]] (.seq (.r [.mv 4 (.c (.d (.i .i64 (-1))))])
    (.ret)))
    (.pre [.kill [10]] (.skip))))
  (.seq (.r [.mv 11 (.t 1),
    .fa 12 (.t 2) 1,
    .ld 13 1 false (.t 12),
    .lns 14 (.t 13),
    .bin 15 .sub .num (.t 11) (.t 14),
    .kill [1, 2, 11, 12, 13, 14],
    .mv 1 (.t 15),
    .keep [1],
    .drop [66]])
  (.seq (.seq (.r [.mv 16 (.t 1),
    .bin 17 .lss .num (.t 16) (.c (.d (.i .i64 0))),
    .kill [16]])
  (.cond (.t 17)
    (.pre [.keep []] (.seq (.r [.mv 4 (.c (.d (.i .i64 (-1))))])
    (.ret)))
    (.pre [.kill [17]] (.skip))))
  (.seq (.r [.mv 18 (.t 1),
    .mv 4 (.t 18),
    .keep [4]])
  (.ret))))))⟩
def wszProp_m : Fn := ⟨2, [.t 4], false,
  .seq (.r [.bx 2 TProp false (.t 0),
    .mv 4 (.c (.d (.i .i64 0))),
    .kill [0, 4]])
  (.seq (.r [.mv 5 (.t 1),
    .fa 6 (.t 2) 0,
    .ld 7 1 false (.t 6),
    .lns 8 (.t 7),
    .bin 9 .sub .num (.t 5) (.t 8),
    .kill [1, 5, 6, 7, 8],
    .mv 1 (.t 9),
    .keep [2, 1]])
  (.seq (.seq (.r [.mv 10 (.t 1),
    .bin 11 .lss .num (.t 10) (.c (.d (.i .i64 0))),
    .kill [10]])
  (.cond (.t 11)
    (.pre [.keep [], .drop [66]] (.seq (.r [.mv 4 (.c (.d (.i .i64 (-1))))])
    (.ret)))
    (.pre [.kill [11]] (.skip))))
  (.seq (.r [.mv 12 (.t 1),
    .fa 13 (.t 2) 1,
    .ld 14 1 false (.t 13),
    .lns 15 (.t 14),
    .bin 16 .sub .num (.t 12) (.t 15),
    .kill [1, 12, 13, 14, 15],
    .mv 1 (.t 16),
    .keep [2, 1]])
  (.seq (.seq (.r [.mv 17 (.t 1),
    .bin 18 .lss .num (.t 17) (.c (.d (.i .i64 0))),
    .kill [17]])
  (.cond (.t 18)
    (.pre [.keep [], .drop [66]] (.seq (.r [.mv 4 (.c (.d (.i .i64 (-1))))])
    (.ret)))
    (.pre [.kill [18]] (.skip))))
  (.seq (.r [.mv 19 (.t 1),
    .fa 20 (.t 2) 2,
    .ld 21 1 false (.t 20),
    .lns 22 (.t 21),
    .bin 23 .sub .num (.t 19) (.t 22),
    .kill [1, 2, 19, 20, 21, 22],
    .mv 1 (.t 23),
    .keep [1],
    .drop [66]])
  (.seq (.seq (.r [.mv 24 (.t 1),
    .bin 25 .lss .num (.t 24) (.c (.d (.i .i64 0))),
    .kill [24]])
  (.cond (.t 25)
    (.pre [.keep []] (.seq (.r [.mv 4 (.c (.d (.i .i64 (-1))))])
    (.ret)))
    (.pre [.kill [25]] (.skip))))
  (.seq (.r [.mv 26 (.t 1),
    .mv 4 (.t 26),
    .keep [4]])
  (.ret))))))))⟩
def sl18Dav_m : Fn := ⟨2, [.cell 4 4 true], false,
  .seq (.r [.al 4 .node false])
  (.seq (.r [.mv 5 (.t 0),
    .mv 6 (.t 1),
    .bd 7 [.d (.s []), .d (.s []), .d (.s []), .nil .node] [(0, 1, (.c (.d (.s [68, 65, 86, 58])))), (1, 1, (.t 5)), (2, 1, (.t 6))],
    .st 4 (.t 4) (.t 7),
    .keep [4]])
  (.ret))⟩
/-- live: [0, 3, 4]; objects: [] -/
def sPathText_l0 : C :=
  .seq (.seq (.r [.mv 8 (.t 4),
      .mv 9 (.t 0),
      .len 10 (.t 9),
      .bin 11 .lss .num (.t 8) (.t 10),
      .kill [8, 9, 10]])
    (.cond (.t 11)
      (.pre [.kill [11]] (.skip))
      (.pre [.keep [3]] (.ex 0))))
    (.seq (.blk 1 (.r [.mv 14 (.t 3),
      .bin 15 .add .num (.t 14) (.c (.d (.s [47]))),
      .mv 16 (.t 0),
      .mv 17 (.t 4),
      .ia 18 1 (.t 16) (.t 17),
      .ld 19 1 false (.t 18),
      .kill [3, 14, 16, 17, 18],
      .call 20 true [] (.c (.clo sQuote [])) [(.t 19)],
      .bin 21 .add .num (.t 15) (.t 20),
      .mv 3 (.t 21),
      .keep [4, 3, 0]]))
    (.r [.mv 12 (.t 4),
      .bin 13 .add .num (.t 12) (.c (.d (.i .i64 1))),
      .mv 4 (.t 13),
      .kill [12, 13]]))
def sPathText_m : Fn := ⟨1, [.t 2], false,
  .seq (.r [.mv 2 (.c (.d (.s []))),
    .kill [2]])
  (.seq (.seq (.r [.mv 5 (.t 0),
    .call 6 true [] (.c (.clo sPathOk [])) [(.t 5)],
    .not 7 (.t 6),
    .kill [5, 6]])
  (.cond (.t 7)
    (.pre [.keep []] (.seq (.r [.mv 2 (.c (.d (.s [])))])
    (.ret)))
    (.pre [.kill [7]] (.skip))))
  (.seq (.r [.mv 3 (.c (.d (.s [])))])
  (.seq (.seq (.r [.mv 4 (.c (.d (.i .i64 0)))])
  (.blk 0 (.pre [.keep [4, 3, 0]] (.loop sPathText_l0))))
  (.seq (.seq (.r [.mv 22 (.t 3),
    .bin 23 .eql .num (.t 22) (.c (.d (.s []))),
    .kill [22]])
  (.cond (.t 23)
    (.pre [.keep []] (.seq (.r [.mv 2 (.c (.d (.s [47])))])
    (.ret)))
    (.pre [.kill [23]] (.skip))))
  (.seq (.r [.mv 24 (.t 3),
    .mv 2 (.t 24),
    .keep [2]])
  (.ret))))))⟩
def wtoItem_m : Fn := ⟨1, [.cell 2 2 true], false,
  .seq (.r [.bx 1 TItem true (.t 0),
    .al 2 TItem false,
    .kill [0]])
  (.seq (.r [.al 3 TItem false])
  (.seq (.r [.fa 4 (.t 1) 0,
    .ld 5 1 false (.t 4),
    .call 6 false [] (.c (.clo wtoStringS [])) [(.t 5)],
    .fa 7 (.t 3) 0,
    .st 1 (.t 7) (.t 6),
    .keep [3, 2, 1],
    .drop [7064]])
  (.seq (.r [.fa 8 (.t 1) 1,
    .ld 9 1 false (.t 8),
    .fa 10 (.t 3) 1,
    .st 1 (.t 10) (.t 9),
    .keep [3, 2],
    .drop [65]])
  (.seq (.r [.ldt 11 2 true (.t 3),
    .st 2 (.t 2) (.t 11),
    .keep [2],
    .drop [67, 12064]])
  (.ret)))))⟩
def wtoProp_m : Fn := ⟨1, [.cell 2 3 true], false,
  .seq (.r [.bx 1 TProp false (.t 0),
    .al 2 TProp false,
    .kill [0]])
  (.seq (.r [.al 3 TProp false])
  (.seq (.r [.fa 4 (.t 1) 0,
    .ld 5 1 false (.t 4),
    .fa 6 (.t 3) 0,
    .st 1 (.t 6) (.t 5),
    .kill [4, 5, 6]])
  (.seq (.r [.fa 7 (.t 1) 1,
    .ld 8 1 false (.t 7),
    .fa 9 (.t 3) 1,
    .st 1 (.t 9) (.t 8),
    .kill [7, 8, 9]])
  (.seq (.r [.fa 10 (.t 1) 2,
    .ld 11 1 false (.t 10),
    .fa 12 (.t 3) 2,
    .st 1 (.t 12) (.t 11),
    .keep [3, 2],
    .drop [65]])
  (.seq (.r [.ld 13 3 true (.t 3),
    .st 3 (.t 2) (.t 13),
    .keep [2],
    .drop [67]])
  (.ret))))))⟩
def idavNode_m : Fn := ⟨2, [.cell 4 4 true], false,
  .seq (.r [.al 4 .node false])
  (.seq (.r [.mv 5 (.t 0),
    .mv 6 (.t 1),
    .bd 7 [.d (.s []), .d (.s []), .d (.s []), .nil .node] [(0, 1, (.c (.d (.s [68, 65, 86, 58])))), (1, 1, (.t 5)), (3, 1, (.t 6))],
    .st 4 (.t 4) (.t 7),
    .keep [4]])
  (.ret))⟩
def itextNode_m : Fn := ⟨2, [.cell 4 4 true], false,
  .seq (.r [.al 4 .node false])
  (.seq (.r [.mv 5 (.t 0),
    .mv 6 (.t 1),
    .bd 7 [.d (.s []), .d (.s []), .d (.s []), .nil .node] [(0, 1, (.c (.d (.s [68, 65, 86, 58])))), (1, 1, (.t 5)), (2, 1, (.t 6))],
    .st 4 (.t 4) (.t 7),
    .keep [4]])
  (.ret))⟩
/-- live: [3, 9, 10, 11]; objects: [67] -/
def iPathText_l0 : C :=
  .seq (.r [.bin 12 .lss .num (.t 11) (.t 10)])
    (.seq (.cond (.t 12)
      (.pre [.kill [12]] (.skip))
      (.pre [.keep [3]] (.ex 0)))
    (.seq (.blk 1 (.seq (.r [.ia 13 1 (.t 9) (.t 11),
      .ld 14 1 false (.t 13),
      .mv 5 (.t 14),
      .kill [13, 14]])
    (.r [.mv 15 (.t 3),
      .mv 16 (.t 5),
      .call 17 true [] (.c (.clo iQuote [])) [(.t 16)],
      .bs 18 .str false 1 [.d (.s [])] [(0, (.t 17))],
      .app 19 .str false 16 (.t 15) (.t 18),
      .kill [3, 5, 15, 16, 17, 18],
      .mv 3 (.t 19),
      .ren 83 67,
      .keep [11, 10, 9, 3],
      .drop [82, 83]])))
    (.r [.bin 20 .add .num (.t 11) (.c (.d (.i .i64 1))),
      .mv 11 (.t 20),
      .kill [20]])))
def iPathText_m : Fn := ⟨1, [.t 2], false,
  .seq (.r [.mv 2 (.c (.d (.s []))),
    .kill [2]])
  (.seq (.seq (.r [.mv 6 (.t 0),
    .call 7 true [] (.c (.clo iPathOk [])) [(.t 6)],
    .not 8 (.t 7),
    .kill [6, 7]])
  (.cond (.t 8)
    (.pre [.keep []] (.seq (.r [.mv 2 (.c (.d (.s [])))])
    (.ret)))
    (.pre [.kill [8]] (.skip))))
  (.seq (.r [.mv 3 (.c (.nil .str)),
    .opn 3 3 false])
  (.seq (.seq (.r [.mv 9 (.t 0),
    .len 10 (.t 9),
    .mv 11 (.c (.d (.i .i64 0))),
    .kill [0]])
  (.blk 0 (.pre [.keep [11, 10, 9, 3]] (.loop iPathText_l0))))
  (.seq (.r [.mv 21 (.t 3),
    .call 22 true [] (.c (.clo x_strings_Join [])) [(.t 21), (.c (.d (.s [47])))],
    .bin 23 .add .num (.c (.d (.s [47]))) (.t 22),
    .mv 2 (.t 23),
    .keep [2],
    .drop [67]])
  (.ret)))))⟩
/-- live: [0, 1, 5]; objects: [] -/
def weqNodeS_l0 : C :=
  .seq (.seq (.r [.mv 11 (.t 5),
      .mv 12 (.t 0),
      .len 13 (.t 12),
      .bin 14 .lss .num (.t 11) (.t 13),
      .kill [11, 12, 13]])
    (.cond (.t 14)
      (.pre [.kill [14]] (.skip))
      (.pre [.keep []] (.ex 0))))
    (.seq (.blk 1 (.seq (.post (.r [.mv 17 (.t 0),
      .mv 18 (.t 5),
      .ia 19 4 (.t 17) (.t 18),
      .ld 20 4 true (.t 19),
      .mv 21 (.t 1),
      .mv 22 (.t 5),
      .ia 23 4 (.t 21) (.t 22),
      .ld 24 4 true (.t 23),
      .call 25 true [] (.c (.clo weqNode [])) [(.t 20), (.t 24)],
      .not 26 (.t 25)]) [.keep [26, 5, 1, 0]])
    (.cond (.t 26)
      (.pre [.keep []] (.seq (.r [.mv 4 (.c (.d (.b false)))])
      (.ret)))
      (.pre [.kill [26]] (.skip)))))
    (.r [.mv 15 (.t 5),
      .bin 16 .add .num (.t 15) (.c (.d (.i .i64 1))),
      .mv 5 (.t 16),
      .kill [15, 16]]))
def weqNodeS_m : Fn := ⟨2, [.t 4], false,
  .seq (.r [.mv 4 (.c (.d (.b false))),
    .kill [4]])
  (.seq (.seq (.r [.mv 6 (.t 0),
    .len 7 (.t 6),
    .mv 8 (.t 1),
    .len 9 (.t 8),
    .bin 10 .neq .num (.t 7) (.t 9),
    .keep [10, 1, 0]])
  (.cond (.t 10)
    (.pre [.keep []] (.seq (.r [.mv 4 (.c (.d (.b false)))])
    (.ret)))
    (.pre [.kill [10]] (.skip))))
  (.seq (.seq (.r [.mv 5 (.c (.d (.i .i64 0)))])
  (.blk 0 (.pre [.keep [5, 1, 0]] (.loop weqNodeS_l0))))
  (.seq (.r [.mv 4 (.c (.d (.b true)))])
  (.ret))))⟩
def weqItem_m : Fn := ⟨2, [.t 4], false,
  .seq (.r [.bx 2 TItem true (.t 0),
    .bx 3 TItem true (.t 1),
    .mv 4 (.c (.d (.b false))),
    .keep [3, 2]])
  (.seq (.seq (.r [.fa 5 (.t 2) 0,
    .ld 6 1 false (.t 5),
    .fa 7 (.t 3) 0,
    .ld 8 1 false (.t 7),
    .call 9 true [] (.c (.clo weqStringS [])) [(.t 6), (.t 8)],
    .not 10 (.t 9),
    .keep [10, 3, 2]])
  (.cond (.t 10)
    (.pre [.keep [], .drop [66, 67]] (.seq (.r [.mv 4 (.c (.d (.b false)))])
    (.ret)))
    (.pre [.kill [10]] (.skip))))
  (.seq (.seq (.r [.fa 11 (.t 2) 1,
    .ld 12 1 false (.t 11),
    .fa 13 (.t 3) 1,
    .ld 14 1 false (.t 13),
    .bin 15 .neq .num (.t 12) (.t 14),
    .keep [15],
    .drop [66, 67]])
  (.cond (.t 15)
    (.pre [.keep []] (.seq (.r [.mv 4 (.c (.d (.b false)))])
    (.ret)))
    (.pre [.keep []] (.skip))))
  (.seq (.r [.mv 4 (.c (.d (.b true)))])
  (.ret))))⟩
def weqProp_m : Fn := ⟨2, [.t 4], false,
  .seq (.r [.bx 2 TProp false (.t 0),
    .bx 3 TProp false (.t 1),
    .mv 4 (.c (.d (.b false))),
    .keep [3, 2]])
  (.seq (.seq (.r [.fa 5 (.t 2) 0,
    .ld 6 1 false (.t 5),
    .fa 7 (.t 3) 0,
    .ld 8 1 false (.t 7),
    .bin 9 .neq .num (.t 6) (.t 8),
    .keep [9, 3, 2]])
  (.cond (.t 9)
    (.pre [.keep [], .drop [66, 67]] (.seq (.r [.mv 4 (.c (.d (.b false)))])
    (.ret)))
    (.pre [.kill [9]] (.skip))))
  (.seq (.seq (.r [.fa 10 (.t 2) 1,
    .ld 11 1 false (.t 10),
    .fa 12 (.t 3) 1,
    .ld 13 1 false (.t 12),
    .bin 14 .neq .num (.t 11) (.t 13),
    .keep [14, 3, 2]])
  (.cond (.t 14)
    (.pre [.keep [], .drop [66, 67]] (.seq (.r [.mv 4 (.c (.d (.b false)))])
    (.ret)))
    (.pre [.kill [14]] (.skip))))
  (.seq (.seq (.r [.fa 15 (.t 2) 2,
    .ld 16 1 false (.t 15),
    .fa 17 (.t 3) 2,
    .ld 18 1 false (.t 17),
    .bin 19 .neq .num (.t 16) (.t 18),
    .keep [19],
    .drop [66, 67]])
  (.cond (.t 19)
    (.pre [.keep []] (.seq (.r [.mv 4 (.c (.d (.b false)))])
    (.ret)))
    (.pre [.keep []] (.skip))))
  (.seq (.r [.mv 4 (.c (.d (.b true)))])
  (.ret)))))⟩
/-- live: [0, 1, 5]; objects: [0] -/
def wmarkStringS_l0 : C :=
  .seq (.seq (.r [.mv 6 (.t 5),
      .mv 7 (.t 0),
      .len 8 (.t 7),
      .bin 9 .lss .num (.t 6) (.t 8),
      .kill [6, 7, 8]])
    (.cond (.t 9)
      (.pre [.kill [9]] (.skip))
      (.pre [.keep [1]] (.ex 0))))
    (.seq (.blk 1 (.seq (.r [.mv 12 (.t 0),
      .mv 13 (.t 5),
      .mv 14 (.t 1),
      .call 15 true [] (.c (.clo wmarkText [])) [(.t 14)],
      .ia 16 1 (.t 12) (.t 13),
      .st 1 (.t 16) (.t 15),
      .keep [5, 1, 0]])
    (.r [.mv 17 (.t 1),
      .bin 18 .add .num (.t 17) (.c (.d (.i .i64 1))),
      .mv 1 (.t 18),
      .kill [17, 18]])))
    (.r [.mv 10 (.t 5),
      .bin 11 .add .num (.t 10) (.c (.d (.i .i64 1))),
      .mv 5 (.t 11),
      .kill [10, 11]]))
def wmarkStringS_m : Fn := ⟨2, [.t 4], false,
  .seq (.r [.mv 4 (.c (.d (.i .i64 0))),
    .kill [4]])
  (.seq (.seq (.r [.mv 5 (.c (.d (.i .i64 0)))])
  (.blk 0 (.pre [.keep [5, 1, 0]] (.loop wmarkStringS_l0))))
  (.seq (.r [.mv 19 (.t 1),
    .mv 4 (.t 19),
    .keep [4]])
  (.ret)))⟩
/-- live: [0, 3]; objects: [] -/
def wmarkText_l0 : C :=
  .seq (.seq (.r [.mv 6 (.t 0),
      .bin 7 .gtr .num (.t 6) (.c (.d (.i .i64 0))),
      .kill [6]])
    (.cond (.t 7)
      (.pre [.kill [7]] (.skip))
      (.pre [.keep [3]] (.ex 0))))
    (.blk 1 (.seq (.r [.mv 8 (.t 0),
      .bin 9 .rem .num (.t 8) (.c (.d (.i .i64 10))),
      .bin 10 .add .num (.c (.d (.i .i64 48))) (.t 9),
      .cvi 11 .u8 (.t 10),
      .bs 12 .u8 false 1 [.d (.u 0)] [(0, (.t 11))],
      .b2s 13 (.t 12),
      .kill [8, 9, 10, 11, 12],
      .mv 14 (.t 3),
      .bin 15 .add .num (.t 13) (.t 14),
      .mv 3 (.t 15),
      .keep [3, 0],
      .drop [76]])
    (.r [.mv 16 (.t 0),
      .bin 17 .quo .num (.t 16) (.c (.d (.i .i64 10))),
      .mv 0 (.t 17),
      .kill [16, 17]])))
def wmarkText_m : Fn := ⟨1, [.t 2], false,
  .seq (.r [.mv 2 (.c (.d (.s []))),
    .kill [2]])
  (.seq (.seq (.r [.mv 4 (.t 0),
    .bin 5 .leq .num (.t 4) (.c (.d (.i .i64 0))),
    .kill [4]])
  (.cond (.t 5)
    (.pre [.keep []] (.seq (.r [.mv 2 (.c (.d (.s [109, 48])))])
    (.ret)))
    (.pre [.kill [5]] (.skip))))
  (.seq (.r [.mv 3 (.c (.d (.s [])))])
  (.seq (.blk 0 (.pre [.keep [3, 0]] (.loop wmarkText_l0)))
  (.seq (.r [.mv 18 (.t 3),
    .bin 19 .add .num (.c (.d (.s [109]))) (.t 18),
    .mv 2 (.t 19),
    .keep [2]])
  (.ret)))))⟩
/-- live: [0, 1, 5]; objects: [0] -/
def wmarkNodeS_l0 : C :=
  .seq (.seq (.r [.mv 6 (.t 5),
      .mv 7 (.t 0),
      .len 8 (.t 7),
      .bin 9 .lss .num (.t 6) (.t 8),
      .kill [6, 7, 8]])
    (.cond (.t 9)
      (.pre [.kill [9]] (.skip))
      (.pre [.keep [1]] (.ex 0))))
    (.seq (.blk 1 (.seq (.r [.mv 12 (.t 0),
      .mv 13 (.t 5),
      .mv 14 (.t 1),
      .call 15 true [] (.c (.clo wmarkText [])) [(.t 14)],
      .ia 16 4 (.t 12) (.t 13),
      .fa 17 (.t 16) 0,
      .st 1 (.t 17) (.t 15),
      .keep [5, 1, 0]])
    (.seq (.r [.mv 18 (.t 1),
      .bin 19 .add .num (.t 18) (.c (.d (.i .i64 1))),
      .mv 1 (.t 19),
      .kill [18, 19]])
    (.seq (.r [.mv 20 (.t 0),
      .mv 21 (.t 5),
      .mv 22 (.t 1),
      .call 23 true [] (.c (.clo wmarkText [])) [(.t 22)],
      .ia 24 4 (.t 20) (.t 21),
      .fa 25 (.t 24) 1,
      .st 1 (.t 25) (.t 23),
      .keep [5, 1, 0]])
    (.seq (.r [.mv 26 (.t 1),
      .bin 27 .add .num (.t 26) (.c (.d (.i .i64 1))),
      .mv 1 (.t 27),
      .kill [26, 27]])
    (.seq (.r [.mv 28 (.t 0),
      .mv 29 (.t 5),
      .mv 30 (.t 1),
      .call 31 true [] (.c (.clo wmarkText [])) [(.t 30)],
      .ia 32 4 (.t 28) (.t 29),
      .fa 33 (.t 32) 2,
      .st 1 (.t 33) (.t 31),
      .keep [5, 1, 0]])
    (.seq (.r [.mv 34 (.t 1),
      .bin 35 .add .num (.t 34) (.c (.d (.i .i64 1))),
      .mv 1 (.t 35),
      .kill [34, 35]])
    (.r [.mv 36 (.t 0),
      .mv 37 (.t 5),
      .ia 38 4 (.t 36) (.t 37),
      .fa 39 (.t 38) 3,
      .ldm 40 (.t 39),
      .mv 41 (.t 1),
      .kill [1, 36, 37, 38, 39],
      .call 42 true [104] (.c (.clo wmarkNodeS [])) [(.t 40), (.t 41)],
      .cls 0 104,
      .mv 1 (.t 42),
      .keep [5, 1, 0],
      .drop [104]]))))))))
    (.r [.mv 10 (.t 5),
      .bin 11 .add .num (.t 10) (.c (.d (.i .i64 1))),
      .mv 5 (.t 11),
      .kill [10, 11]]))
def wmarkNodeS_m : Fn := ⟨2, [.t 4], false,
  .seq (.r [.mv 4 (.c (.d (.i .i64 0))),
    .kill [4]])
  (.seq (.seq (.r [.mv 5 (.c (.d (.i .i64 0)))])
  (.blk 0 (.pre [.keep [5, 1, 0]] (.loop wmarkNodeS_l0))))
  (.seq (.r [.mv 43 (.t 1),
    .mv 4 (.t 43),
    .keep [4]])
  (.ret)))⟩
/-- live: [0, 1, 5]; objects: [] -/
def wheldNodeS_l0 : C :=
  .seq (.seq (.r [.mv 6 (.t 5),
      .mv 7 (.t 0),
      .len 8 (.t 7),
      .bin 9 .lss .num (.t 6) (.t 8),
      .kill [6, 7, 8]])
    (.cond (.t 9)
      (.pre [.kill [9]] (.skip))
      (.pre [.keep [1]] (.ex 0))))
    (.seq (.blk 1 (.seq (.seq (.post (.r [.mv 12 (.t 0),
      .mv 13 (.t 5),
      .ia 14 4 (.t 12) (.t 13),
      .fa 15 (.t 14) 0,
      .ld 16 1 false (.t 15),
      .mv 17 (.t 1),
      .call 18 true [] (.c (.clo wmarkText [])) [(.t 17)],
      .bin 19 .neq .num (.t 16) (.t 18)]) [.keep [19, 5, 1, 0]])
    (.cond (.t 19)
      (.pre [.keep []] (.seq (.r [.mv 4 (.c (.d (.i .i64 (-1))))])
      (.ret)))
      (.pre [.kill [19]] (.skip))))
    (.seq (.r [.mv 20 (.t 1),
      .bin 21 .add .num (.t 20) (.c (.d (.i .i64 1))),
      .mv 1 (.t 21),
      .kill [20, 21]])
    (.seq (.seq (.post (.r [.mv 22 (.t 0),
      .mv 23 (.t 5),
      .ia 24 4 (.t 22) (.t 23),
      .fa 25 (.t 24) 1,
      .ld 26 1 false (.t 25),
      .mv 27 (.t 1),
      .call 28 true [] (.c (.clo wmarkText [])) [(.t 27)],
      .bin 29 .neq .num (.t 26) (.t 28)]) [.keep [29, 5, 1, 0]])
    (.cond (.t 29)
      (.pre [.keep []] (.seq (.r [.mv 4 (.c (.d (.i .i64 (-1))))])
      (.ret)))
      (.pre [.kill [29]] (.skip))))
    (.seq (.r [.mv 30 (.t 1),
      .bin 31 .add .num (.t 30) (.c (.d (.i .i64 1))),
      .mv 1 (.t 31),
      .kill [30, 31]])
    (.seq (.seq (.post (.r [.mv 32 (.t 0),
      .mv 33 (.t 5),
      .ia 34 4 (.t 32) (.t 33),
      .fa 35 (.t 34) 2,
      .ld 36 1 false (.t 35),
      .mv 37 (.t 1),
      .call 38 true [] (.c (.clo wmarkText [])) [(.t 37)],
      .bin 39 .neq .num (.t 36) (.t 38)]) [.keep [39, 5, 1, 0]])
    (.cond (.t 39)
      (.pre [.keep []] (.seq (.r [.mv 4 (.c (.d (.i .i64 (-1))))])
      (.ret)))
      (.pre [.kill [39]] (.skip))))
    (.seq (.r [.mv 40 (.t 1),
      .bin 41 .add .num (.t 40) (.c (.d (.i .i64 1))),
      .mv 1 (.t 41),
      .kill [40, 41]])
    (.seq (.r [.mv 42 (.t 0),
      .mv 43 (.t 5),
      .ia 44 4 (.t 42) (.t 43),
      .fa 45 (.t 44) 3,
      .ld 46 1 false (.t 45),
      .mv 47 (.t 1),
      .kill [1, 42, 43, 44, 45],
      .call 48 true [] (.c (.clo wheldNodeS [])) [(.t 46), (.t 47)],
      .mv 1 (.t 48),
      .keep [5, 1, 0]])
    (.seq (.r [.mv 49 (.t 1),
      .bin 50 .lss .num (.t 49) (.c (.d (.i .i64 0))),
      .kill [49]])
    (.cond (.t 50)
      (.pre [.keep []] (.seq (.r [.mv 4 (.c (.d (.i .i64 (-1))))])
      (.ret)))
      (.pre [.kill [50]] (.skip))))))))))))
    (.r [.mv 10 (.t 5),
      .bin 11 .add .num (.t 10) (.c (.d (.i .i64 1))),
      .mv 5 (.t 11),
      .kill [10, 11]]))
def wheldNodeS_m : Fn := ⟨2, [.t 4], false,
  .seq (.r [.mv 4 (.c (.d (.i .i64 0))),
    .kill [4]])
  (.seq (.seq (.r [.mv 5 (.c (.d (.i .i64 0)))])
  (.blk 0 (.pre [.keep [5, 1, 0]] (.loop wheldNodeS_l0))))
  (.seq (.r [.mv 51 (.t 1),
    .mv 4 (.t 51),
    .keep [4]])
  (.ret)))⟩
/-- live: [0, 1, 5]; objects: [] -/
def wszStringS_l0 : C :=
  .seq (.seq (.r [.mv 12 (.t 5),
      .mv 13 (.t 0),
      .len 14 (.t 13),
      .bin 15 .lss .num (.t 12) (.t 14),
      .kill [12, 13, 14]])
    (.cond (.t 15)
      (.pre [.kill [15]] (.skip))
      (.pre [.keep [1]] (.ex 0))))
    (.seq (.blk 1 (.seq (.r [.mv 18 (.t 1),
      .mv 19 (.t 0),
      .mv 20 (.t 5),
      .ia 21 1 (.t 19) (.t 20),
      .ld 22 1 false (.t 21),
      .lns 23 (.t 22),
      .kill [1, 19, 20, 21, 22],
      .bin 24 .sub .num (.t 18) (.t 23),
      .mv 1 (.t 24),
      .keep [5, 1, 0]])
    (.seq (.r [.mv 25 (.t 1),
      .bin 26 .lss .num (.t 25) (.c (.d (.i .i64 0))),
      .kill [25]])
    (.cond (.t 26)
      (.pre [.keep []] (.seq (.r [.mv 4 (.c (.d (.i .i64 (-1))))])
      (.ret)))
      (.pre [.kill [26]] (.skip))))))
    (.r [.mv 16 (.t 5),
      .bin 17 .add .num (.t 16) (.c (.d (.i .i64 1))),
      .mv 5 (.t 17),
      .kill [16, 17]]))
def wszStringS_m : Fn := ⟨2, [.t 4], false,
  .seq (.r [.mv 4 (.c (.d (.i .i64 0))),
    .kill [4]])
  (.seq (.r [.mv 6 (.t 1),
    .mv 7 (.t 0),
    .len 8 (.t 7),
    .bin 9 .sub .num (.t 6) (.t 8),
    .mv 1 (.t 9),
    .keep [1, 0]])
  (.seq (.seq (.r [.mv 10 (.t 1),
    .bin 11 .lss .num (.t 10) (.c (.d (.i .i64 0))),
    .kill [10]])
  (.cond (.t 11)
    (.pre [.keep []] (.seq (.r [.mv 4 (.c (.d (.i .i64 (-1))))])
    (.ret)))
    (.pre [.kill [11]] (.skip))))
  (.seq (.seq (.r [.mv 5 (.c (.d (.i .i64 0)))])
  (.blk 0 (.pre [.keep [5, 1, 0]] (.loop wszStringS_l0))))
  (.seq (.r [.mv 27 (.t 1),
    .mv 4 (.t 27),
    .keep [4]])
  (.ret)))))⟩
/-- live: [0, 3]; objects: [] -/
def sPathOk_l0 : C :=
  .seq (.seq (.r [.mv 4 (.t 3),
      .mv 5 (.t 0),
      .len 6 (.t 5),
      .bin 7 .lss .num (.t 4) (.t 6),
      .kill [4, 5, 6]])
    (.cond (.t 7)
      (.pre [.kill [7]] (.skip))
      (.pre [.keep [0]] (.ex 0))))
    (.seq (.blk 1 (.seq (.r [.mv 10 (.t 0),
      .mv 11 (.t 3),
      .ia 12 1 (.t 10) (.t 11),
      .ld 13 1 false (.t 12),
      .call 14 true [] (.c (.clo sNameOk [])) [(.t 13)],
      .not 15 (.t 14),
      .keep [15, 3, 0]])
    (.cond (.t 15)
      (.pre [.keep []] (.seq (.r [.mv 2 (.c (.d (.b false)))])
      (.ret)))
      (.pre [.kill [15]] (.skip)))))
    (.r [.mv 8 (.t 3),
      .bin 9 .add .num (.t 8) (.c (.d (.i .i64 1))),
      .mv 3 (.t 9),
      .kill [8, 9]]))
def sPathOk_m : Fn := ⟨1, [.t 2], false,
  .seq (.r [.mv 2 (.c (.d (.b false))),
    .kill [2]])
  (.seq (.seq (.r [.mv 3 (.c (.d (.i .i64 0)))])
  (.blk 0 (.pre [.keep [3, 0]] (.loop sPathOk_l0))))
  (.seq (.r [.mv 16 (.t 0),
    .len 17 (.t 16),
    .bin 18 .leq .num (.t 17) (.c (.d (.i .i64 4))),
    .mv 2 (.t 18),
    .keep [2]])
  (.ret)))⟩
/-- live: [0, 3, 4]; objects: [67] -/
def sQuote_l0 : C :=
  .seq (.seq (.r [.mv 6 (.t 4),
      .mv 7 (.t 0),
      .lns 8 (.t 7),
      .bin 9 .lss .num (.t 6) (.t 8),
      .kill [6, 7, 8]])
    (.cond (.t 9)
      (.pre [.kill [9]] (.skip))
      (.pre [.keep [3]] (.ex 0))))
    (.seq (.blk 1 (.seq (.r [.mv 12 (.t 0),
      .mv 13 (.t 4),
      .ix 14 (.t 12) (.t 13),
      .call 15 true [] (.c (.clo sl2Free [])) [(.t 14)],
      .kill [12, 13, 14]])
    (.cond (.t 15)
      (.pre [.kill [15]] (.r [.mv 16 (.t 3),
        .mv 17 (.t 0),
        .mv 18 (.t 4),
        .ix 19 (.t 17) (.t 18),
        .bs 20 .u8 false 1 [.d (.u 0)] [(0, (.t 19))],
        .app 21 .u8 false 1 (.t 16) (.t 20),
        .kill [3, 16, 17, 18, 19, 20],
        .mv 3 (.t 21),
        .ren 85 67,
        .keep [4, 3, 0],
        .drop [84, 85]]))
      (.pre [.kill [15]] (.post (.r [.an [99] [] [] [] (.mv 22 (.t 3)),
        .mv 23 (.t 0),
        .mv 24 (.t 4),
        .ix 25 (.t 23) (.t 24),
        .cvi 26 .i64 (.t 25),
        .bin 27 .quo .num (.t 26) (.c (.d (.i .i64 16))),
        .call 28 true [] (.c (.clo sl2Digit [])) [(.t 27)],
        .mv 29 (.t 0),
        .mv 30 (.t 4),
        .ix 31 (.t 29) (.t 30),
        .cvi 32 .i64 (.t 31),
        .bin 33 .rem .num (.t 32) (.c (.d (.i .i64 16))),
        .call 34 true [] (.c (.clo sl2Digit [])) [(.t 33)],
        .an [] [] [99] [] (.bs 35 .u8 false 3 [.d (.u 0)] [(0, (.c (.d (.u 37)))), (1, (.t 28)), (2, (.t 34))]),
        .an [] [] [67, 100] [] (.app 36 .u8 false 1 (.t 22) (.t 35)),
        .mv 3 (.t 36)]) [.ren 100 67, .keep [4, 3, 0], .drop [99, 100]])))))
    (.r [.mv 10 (.t 4),
      .bin 11 .add .num (.t 10) (.c (.d (.i .i64 1))),
      .mv 4 (.t 11),
      .kill [10, 11]]))
def sQuote_m : Fn := ⟨1, [.t 2], false,
  .seq (.r [.mv 2 (.c (.d (.s []))),
    .kill [2]])
  (.seq (.r [.bs 5 .u8 false 0 [.d (.u 0)] [],
    .mv 3 (.t 5),
    .ren 69 67,
    .kill [5],
    .drop [69]])
  (.seq (.seq (.r [.mv 4 (.c (.d (.i .i64 0)))])
  (.blk 0 (.pre [.keep [4, 3, 0]] (.loop sQuote_l0))))
  (.seq (.r [.mv 37 (.t 3),
    .b2s 38 (.t 37),
    .mv 2 (.t 38),
    .keep [2],
    .drop [67]])
  (.ret))))⟩
/-- live: [0, 3, 4]; objects: [71] -/
def wtoStringS_l0 : C :=
  .seq (.seq (.r [.mv 8 (.t 4),
      .mv 9 (.t 0),
      .len 10 (.t 9),
      .bin 11 .lss .num (.t 8) (.t 10),
      .kill [8, 9, 10]])
    (.cond (.t 11)
      (.pre [.kill [11]] (.skip))
      (.pre [.keep [3]] (.ex 0))))
    (.seq (.blk 1 (.r [.mv 14 (.t 3),
      .mv 15 (.t 4),
      .mv 16 (.t 0),
      .mv 17 (.t 4),
      .ia 18 1 (.t 16) (.t 17),
      .ld 19 1 false (.t 18),
      .ia 20 1 (.t 14) (.t 15),
      .kill [14, 15, 16, 17, 18],
      .st 1 (.t 20) (.t 19),
      .keep [4, 3, 0]]))
    (.r [.mv 12 (.t 4),
      .bin 13 .add .num (.t 12) (.c (.d (.i .i64 1))),
      .mv 4 (.t 13),
      .kill [12, 13]]))
def wtoStringS_m : Fn := ⟨1, [.t 2], false,
  .seq (.r [.mv 2 (.c (.nil .str)),
    .opn 2 2 false,
    .kill [2],
    .drop [66]])
  (.seq (.r [.mv 5 (.t 0),
    .len 6 (.t 5),
    .mk 7 .str 16 (.t 6),
    .mv 3 (.t 7),
    .keep [3, 0]])
  (.seq (.seq (.r [.mv 4 (.c (.d (.i .i64 0)))])
  (.blk 0 (.pre [.keep [4, 3, 0]] (.loop wtoStringS_l0))))
  (.seq (.r [.mv 21 (.t 3),
    .mv 2 (.t 21),
    .ren 71 66,
    .keep [2],
    .drop [71]])
  (.ret))))⟩
/-- live: [0, 5, 6, 7]; objects: [] -/
def iPathOk_l0 : C :=
  .seq (.r [.bin 8 .lss .num (.t 7) (.t 6)])
    (.seq (.cond (.t 8)
      (.pre [.kill [8]] (.skip))
      (.pre [.keep [0]] (.ex 0)))
    (.seq (.blk 1 (.seq (.r [.ia 9 1 (.t 5) (.t 7),
      .ld 10 1 false (.t 9),
      .mv 4 (.t 10),
      .kill [9, 10]])
    (.seq (.r [.mv 11 (.t 4),
      .call 12 true [] (.c (.clo iNameOk [])) [(.t 11)],
      .not 13 (.t 12),
      .kill [4, 11, 12]])
    (.cond (.t 13)
      (.pre [.keep []] (.seq (.r [.mv 2 (.c (.d (.b false)))])
      (.ret)))
      (.pre [.kill [13]] (.skip))))))
    (.r [.bin 14 .add .num (.t 7) (.c (.d (.i .i64 1))),
      .mv 7 (.t 14),
      .kill [14]])))
def iPathOk_m : Fn := ⟨1, [.t 2], false,
  .seq (.r [.mv 2 (.c (.d (.b false))),
    .kill [2]])
  (.seq (.seq (.r [.mv 5 (.t 0),
    .len 6 (.t 5),
    .mv 7 (.c (.d (.i .i64 0)))])
  (.blk 0 (.pre [.keep [7, 6, 5, 0]] (.loop iPathOk_l0))))
  (.seq (.r [.mv 15 (.t 0),
    .len 16 (.t 15),
    .bin 17 .leq .num (.t 16) (.c (.d (.i .i64 4))),
    .mv 2 (.t 17),
    .keep [2]])
  (.ret)))⟩
/-- live: [0, 3, 4]; objects: [67] -/
def iQuote_l0 : C :=
  .seq (.seq (.r [.mv 6 (.t 4),
      .mv 7 (.t 0),
      .lns 8 (.t 7),
      .bin 9 .lss .num (.t 6) (.t 8),
      .kill [6, 7, 8]])
    (.cond (.t 9)
      (.pre [.kill [9]] (.skip))
      (.pre [.keep [3]] (.ex 0))))
    (.seq (.blk 1 (.seq (.r [.mv 12 (.t 0),
      .mv 13 (.t 4),
      .ix 14 (.t 12) (.t 13),
      .mv 5 (.t 14),
      .kill [12, 13, 14]])
    (.seq (.r [.mv 15 (.t 5),
      .call 16 true [] (.c (.clo iisSmall [])) [(.t 15)],
      .mv 17 (.t 16),
      .gd 17 false (some 18) (.mv 18 (.t 5)),
      .gd 17 false (some 19) (.call 19 true [] (.c (.clo iisLarge [])) [(.t 18)]),
      .pick 20 (.t 17) (.c (.d (.b true))) (.t 19),
      .kill [15, 16, 17, 18, 19],
      .mv 21 (.t 20),
      .gd 21 false (some 22) (.mv 22 (.t 5)),
      .gd 21 false (some 23) (.call 23 true [] (.c (.clo iisDigit [])) [(.t 22)]),
      .pick 24 (.t 21) (.c (.d (.b true))) (.t 23),
      .mv 25 (.t 24),
      .kill [20, 21, 22, 23, 24],
      .gd 25 false (some 26) (.mv 26 (.t 5)),
      .gd 25 false (some 27) (.call 27 true [] (.c (.clo x_strings_IndexByte [])) [(.c (.d (.s [45, 46, 95, 126]))), (.t 26)]),
      .gd 25 false (some 28) (.bin 28 .geq .num (.t 27) (.c (.d (.i .i64 0)))),
      .pick 29 (.t 25) (.c (.d (.b true))) (.t 28),
      .keep [29, 5, 4, 3, 0]])
    (.cond (.t 29)
      (.pre [.kill [29]] (.r [.mv 30 (.t 3),
        .mv 31 (.t 5),
        .bs 32 .u8 false 1 [.d (.u 0)] [(0, (.t 31))],
        .app 33 .u8 false 1 (.t 30) (.t 32),
        .kill [3, 5, 30, 31, 32],
        .mv 3 (.t 33),
        .ren 97 67,
        .keep [4, 3, 0],
        .drop [96, 97]]))
      (.pre [.kill [29]] (.post (.r [.an [105] [] [] [] (.mv 34 (.t 3)),
        .mv 35 (.t 5),
        .bin 36 .shr .num (.t 35) (.c (.d (.i .u64 4))),
        .ix 37 (.c (.d (.s [48, 49, 50, 51, 52, 53, 54, 55, 56, 57, 65, 66, 67, 68, 69, 70]))) (.t 36),
        .mv 38 (.t 5),
        .bin 39 .and .num (.t 38) (.c (.d (.u 15))),
        .ix 40 (.c (.d (.s [48, 49, 50, 51, 52, 53, 54, 55, 56, 57, 65, 66, 67, 68, 69, 70]))) (.t 39),
        .an [] [] [105] [] (.bs 41 .u8 false 3 [.d (.u 0)] [(0, (.c (.d (.u 37)))), (1, (.t 37)), (2, (.t 40))]),
        .an [] [] [67, 106] [] (.app 42 .u8 false 1 (.t 34) (.t 41)),
        .mv 3 (.t 42)]) [.ren 106 67, .keep [4, 3, 0], .drop [105, 106]]))))))
    (.r [.mv 10 (.t 4),
      .bin 11 .add .num (.t 10) (.c (.d (.i .i64 1))),
      .mv 4 (.t 11),
      .kill [10, 11]]))
def iQuote_m : Fn := ⟨1, [.t 2], false,
  .seq (.r [.mv 2 (.c (.d (.s []))),
    .kill [2]])
  (.seq (.r [.mv 3 (.c (.nil .u8)),
    .opn 3 3 false])
  (.seq (.seq (.r [.mv 4 (.c (.d (.i .i64 0)))])
  (.blk 0 (.pre [.keep [4, 3, 0]] (.loop iQuote_l0))))
  (.seq (.r [.mv 43 (.t 3),
    .b2s 44 (.t 43),
    .mv 2 (.t 44),
    .keep [2],
    .drop [67]])
  (.ret))))⟩
/-- live: [0, 1, 5]; objects: [] -/
def weqStringS_l0 : C :=
  .seq (.seq (.r [.mv 11 (.t 5),
      .mv 12 (.t 0),
      .len 13 (.t 12),
      .bin 14 .lss .num (.t 11) (.t 13),
      .kill [11, 12, 13]])
    (.cond (.t 14)
      (.pre [.kill [14]] (.skip))
      (.pre [.keep []] (.ex 0))))
    (.seq (.blk 1 (.seq (.post (.r [.mv 17 (.t 0),
      .mv 18 (.t 5),
      .ia 19 1 (.t 17) (.t 18),
      .ld 20 1 false (.t 19),
      .mv 21 (.t 1),
      .mv 22 (.t 5),
      .ia 23 1 (.t 21) (.t 22),
      .ld 24 1 false (.t 23),
      .bin 25 .neq .num (.t 20) (.t 24)]) [.keep [25, 5, 1, 0]])
    (.cond (.t 25)
      (.pre [.keep []] (.seq (.r [.mv 4 (.c (.d (.b false)))])
      (.ret)))
      (.pre [.kill [25]] (.skip)))))
    (.r [.mv 15 (.t 5),
      .bin 16 .add .num (.t 15) (.c (.d (.i .i64 1))),
      .mv 5 (.t 16),
      .kill [15, 16]]))
def weqStringS_m : Fn := ⟨2, [.t 4], false,
  .seq (.r [.mv 4 (.c (.d (.b false))),
    .kill [4]])
  (.seq (.seq (.r [.mv 6 (.t 0),
    .len 7 (.t 6),
    .mv 8 (.t 1),
    .len 9 (.t 8),
    .bin 10 .neq .num (.t 7) (.t 9),
    .keep [10, 1, 0]])
  (.cond (.t 10)
    (.pre [.keep []] (.seq (.r [.mv 4 (.c (.d (.b false)))])
    (.ret)))
    (.pre [.kill [10]] (.skip))))
  (.seq (.seq (.r [.mv 5 (.c (.d (.i .i64 0)))])
  (.blk 0 (.pre [.keep [5, 1, 0]] (.loop weqStringS_l0))))
  (.seq (.r [.mv 4 (.c (.d (.b true)))])
  (.ret))))⟩
/-- live: [0, 3]; objects: [] -/
def sNameOk_l0 : C :=
  .seq (.seq (.r [.mv 4 (.t 3),
      .mv 5 (.t 0),
      .lns 6 (.t 5),
      .bin 7 .lss .num (.t 4) (.t 6),
      .kill [4, 5, 6]])
    (.cond (.t 7)
      (.pre [.kill [7]] (.skip))
      (.pre [.keep [0]] (.ex 0))))
    (.seq (.blk 1 (.seq (.r [.mv 10 (.t 0),
      .mv 11 (.t 3),
      .ix 12 (.t 10) (.t 11),
      .bin 13 .eql .num (.t 12) (.c (.d (.u 47))),
      .kill [10, 11, 12]])
    (.cond (.t 13)
      (.pre [.keep []] (.seq (.r [.mv 2 (.c (.d (.b false)))])
      (.ret)))
      (.pre [.kill [13]] (.skip)))))
    (.r [.mv 8 (.t 3),
      .bin 9 .add .num (.t 8) (.c (.d (.i .i64 1))),
      .mv 3 (.t 9),
      .kill [8, 9]]))
def sNameOk_m : Fn := ⟨1, [.t 2], false,
  .seq (.r [.mv 2 (.c (.d (.b false))),
    .kill [2]])
  (.seq (.seq (.r [.mv 3 (.c (.d (.i .i64 0)))])
  (.blk 0 (.pre [.keep [3, 0]] (.loop sNameOk_l0))))
  (.seq (.r [.mv 14 (.t 0),
    .lns 15 (.t 14),
    .call 16 true [] (.c (.clo sl1In [])) [(.t 15), (.c (.d (.i .i64 1))), (.c (.d (.i .i64 8)))],
    .mv 17 (.t 16),
    .gd 17 true (some 18) (.mv 18 (.t 0)),
    .gd 17 true (some 19) (.call 19 true [] (.c (.clo sPlain [])) [(.t 18)]),
    .pick 20 (.t 17) (.t 19) (.c (.d (.b false))),
    .kill [14, 15, 16, 17, 18, 19],
    .mv 21 (.t 20),
    .gd 21 true (some 22) (.mv 22 (.t 0)),
    .gd 21 true (some 23) (.bin 23 .neq .num (.t 22) (.c (.d (.s [46])))),
    .pick 24 (.t 21) (.t 23) (.c (.d (.b false))),
    .mv 25 (.t 24),
    .kill [20, 21, 22, 23, 24],
    .gd 25 true (some 26) (.mv 26 (.t 0)),
    .gd 25 true (some 27) (.bin 27 .neq .num (.t 26) (.c (.d (.s [46, 46])))),
    .pick 28 (.t 25) (.t 27) (.c (.d (.b false))),
    .mv 2 (.t 28),
    .keep [2]])
  (.ret)))⟩
def sl2Free_m : Fn := ⟨1, [.t 2], false,
  .seq (.r [.mv 2 (.c (.d (.b false))),
    .kill [2]])
  (.seq (.r [.mv 3 (.t 0),
    .call 4 true [] (.c (.clo sl1Small [])) [(.t 3)],
    .mv 5 (.t 4),
    .gd 5 false (some 6) (.mv 6 (.t 0)),
    .gd 5 false (some 7) (.call 7 true [] (.c (.clo sl1Large [])) [(.t 6)]),
    .pick 8 (.t 5) (.c (.d (.b true))) (.t 7),
    .kill [3, 4, 5, 6, 7],
    .mv 9 (.t 8),
    .gd 9 false (some 10) (.mv 10 (.t 0)),
    .gd 9 false (some 11) (.call 11 true [] (.c (.clo sl1Digit [])) [(.t 10)]),
    .pick 12 (.t 9) (.c (.d (.b true))) (.t 11),
    .mv 13 (.t 12),
    .kill [8, 9, 10, 11, 12],
    .gd 13 false (some 14) (.mv 14 (.t 0)),
    .gd 13 false (some 15) (.bin 15 .eql .num (.t 14) (.c (.d (.u 45)))),
    .pick 16 (.t 13) (.c (.d (.b true))) (.t 15),
    .mv 17 (.t 16),
    .gd 17 false (some 18) (.mv 18 (.t 0)),
    .gd 17 false (some 19) (.bin 19 .eql .num (.t 18) (.c (.d (.u 46)))),
    .kill [13, 14, 15, 16, 18],
    .pick 20 (.t 17) (.c (.d (.b true))) (.t 19),
    .mv 21 (.t 20),
    .gd 21 false (some 22) (.mv 22 (.t 0)),
    .gd 21 false (some 23) (.bin 23 .eql .num (.t 22) (.c (.d (.u 95)))),
    .pick 24 (.t 21) (.c (.d (.b true))) (.t 23),
    .kill [17, 19, 20, 21, 22, 23],
    .mv 25 (.t 24),
    .gd 25 false (some 26) (.mv 26 (.t 0)),
    .gd 25 false (some 27) (.bin 27 .eql .num (.t 26) (.c (.d (.u 126)))),
    .pick 28 (.t 25) (.c (.d (.b true))) (.t 27),
    .kill [0, 24, 25, 26, 27],
    .mv 2 (.t 28),
    .keep [2]])
  (.ret))⟩
def sl2Digit_m : Fn := ⟨1, [.t 2], false,
  .seq (.r [.mv 2 (.c (.d (.u 0))),
    .kill [2]])
  (.seq (.seq (.r [.mv 3 (.t 0),
    .bin 4 .lss .num (.t 3) (.c (.d (.i .i64 10))),
    .kill [3]])
  (.cond (.t 4)
    (.pre [.kill [4]] (.seq (.r [.mv 5 (.t 0),
      .bin 6 .add .num (.c (.d (.i .i64 48))) (.t 5),
      .cvi 7 .u8 (.t 6),
      .mv 2 (.t 7),
      .keep [2]])
    (.ret)))
    (.pre [.kill [4]] (.skip))))
  (.seq (.r [.mv 8 (.t 0),
    .bin 9 .add .num (.c (.d (.i .i64 65))) (.t 8),
    .bin 10 .sub .num (.t 9) (.c (.d (.i .i64 10))),
    .cvi 11 .u8 (.t 10),
    .mv 2 (.t 11),
    .keep [2]])
  (.ret)))⟩
def iNameOk_m : Fn := ⟨1, [.t 2], false,
  .seq (.r [.mv 2 (.c (.d (.b false))),
    .kill [2]])
  (.seq (.r [.mv 3 (.t 0),
    .lns 4 (.t 3),
    .call 5 true [] (.c (.clo iin [])) [(.t 4), (.c (.d (.i .i64 1))), (.c (.d (.i .i64 8)))],
    .mv 6 (.t 5),
    .gd 6 true (some 7) (.mv 7 (.t 0)),
    .gd 6 true (some 8) (.call 8 true [] (.c (.clo iPlain [])) [(.t 7)]),
    .pick 9 (.t 6) (.t 8) (.c (.d (.b false))),
    .kill [3, 4, 5, 6, 7, 8],
    .mv 10 (.t 9),
    .gd 10 true (some 11) (.mv 11 (.t 0)),
    .gd 10 true (some 12) (.call 12 true [] (.c (.clo x_strings_Contains [])) [(.t 11), (.c (.d (.s [47])))]),
    .gd 10 true (some 13) (.not 13 (.t 12)),
    .pick 14 (.t 10) (.t 13) (.c (.d (.b false))),
    .kill [9, 10, 11, 12, 13],
    .mv 15 (.t 14),
    .gd 15 true (some 16) (.mv 16 (.t 0)),
    .gd 15 true (some 17) (.bin 17 .neq .num (.t 16) (.c (.d (.s [46])))),
    .pick 18 (.t 15) (.t 17) (.c (.d (.b false))),
    .mv 19 (.t 18),
    .kill [14, 15, 16, 17, 18],
    .gd 19 true (some 20) (.mv 20 (.t 0)),
    .gd 19 true (some 21) (.bin 21 .neq .num (.t 20) (.c (.d (.s [46, 46])))),
    .pick 22 (.t 19) (.t 21) (.c (.d (.b false))),
    .mv 2 (.t 22),
    .keep [2]])
  (.ret))⟩
def iisSmall_m : Fn := ⟨1, [.t 2], false,
  .seq (.r [.mv 2 (.c (.d (.b false))),
    .kill [2]])
  (.seq (.r [.mv 3 (.t 0),
    .bin 4 .geq .num (.t 3) (.c (.d (.u 97))),
    .mv 5 (.t 4),
    .gd 5 true (some 6) (.mv 6 (.t 0)),
    .gd 5 true (some 7) (.bin 7 .leq .num (.t 6) (.c (.d (.u 122)))),
    .pick 8 (.t 5) (.t 7) (.c (.d (.b false))),
    .kill [0, 3, 4, 5, 6, 7],
    .mv 2 (.t 8),
    .keep [2]])
  (.ret))⟩
def iisLarge_m : Fn := ⟨1, [.t 2], false,
  .seq (.r [.mv 2 (.c (.d (.b false))),
    .kill [2]])
  (.seq (.r [.mv 3 (.t 0),
    .bin 4 .geq .num (.t 3) (.c (.d (.u 65))),
    .mv 5 (.t 4),
    .gd 5 true (some 6) (.mv 6 (.t 0)),
    .gd 5 true (some 7) (.bin 7 .leq .num (.t 6) (.c (.d (.u 90)))),
    .pick 8 (.t 5) (.t 7) (.c (.d (.b false))),
    .kill [0, 3, 4, 5, 6, 7],
    .mv 2 (.t 8),
    .keep [2]])
  (.ret))⟩
def iisDigit_m : Fn := ⟨1, [.t 2], false,
  .seq (.r [.mv 2 (.c (.d (.b false))),
    .kill [2]])
  (.seq (.r [.mv 3 (.t 0),
    .bin 4 .geq .num (.t 3) (.c (.d (.u 48))),
    .mv 5 (.t 4),
    .gd 5 true (some 6) (.mv 6 (.t 0)),
    .gd 5 true (some 7) (.bin 7 .leq .num (.t 6) (.c (.d (.u 57)))),
    .pick 8 (.t 5) (.t 7) (.c (.d (.b false))),
    .kill [0, 3, 4, 5, 6, 7],
    .mv 2 (.t 8),
    .keep [2]])
  (.ret))⟩
def sl1In_m : Fn := ⟨3, [.t 6], false,
  .seq (.r [.mv 6 (.c (.d (.b false))),
    .kill [6]])
  (.seq (.r [.mv 7 (.t 0),
    .mv 8 (.t 1),
    .bin 9 .geq .num (.t 7) (.t 8),
    .mv 10 (.t 9),
    .gd 10 true (some 11) (.mv 11 (.t 0)),
    .kill [0, 1, 7, 8, 9],
    .gd 10 true (some 12) (.mv 12 (.t 2)),
    .gd 10 true (some 13) (.bin 13 .leq .num (.t 11) (.t 12)),
    .pick 14 (.t 10) (.t 13) (.c (.d (.b false))),
    .kill [2, 10, 11, 12, 13],
    .mv 6 (.t 14),
    .keep [6]])
  (.ret))⟩
/-- live: [0, 3]; objects: [] -/
def sPlain_l0 : C :=
  .seq (.seq (.r [.mv 4 (.t 3),
      .mv 5 (.t 0),
      .lns 6 (.t 5),
      .bin 7 .lss .num (.t 4) (.t 6),
      .kill [4, 5, 6]])
    (.cond (.t 7)
      (.pre [.kill [7]] (.skip))
      (.pre [.keep []] (.ex 0))))
    (.seq (.blk 1 (.seq (.r [.mv 10 (.t 0),
      .mv 11 (.t 3),
      .ix 12 (.t 10) (.t 11),
      .cvi 13 .i64 (.t 12),
      .call 14 true [] (.c (.clo sl1In [])) [(.t 13), (.c (.d (.i .i64 32))), (.c (.d (.i .i64 126)))],
      .not 15 (.t 14),
      .keep [15, 3, 0]])
    (.cond (.t 15)
      (.pre [.keep []] (.seq (.r [.mv 2 (.c (.d (.b false)))])
      (.ret)))
      (.pre [.kill [15]] (.skip)))))
    (.r [.mv 8 (.t 3),
      .bin 9 .add .num (.t 8) (.c (.d (.i .i64 1))),
      .mv 3 (.t 9),
      .kill [8, 9]]))
def sPlain_m : Fn := ⟨1, [.t 2], false,
  .seq (.r [.mv 2 (.c (.d (.b false))),
    .kill [2]])
  (.seq (.seq (.r [.mv 3 (.c (.d (.i .i64 0)))])
  (.blk 0 (.pre [.keep [3, 0]] (.loop sPlain_l0))))
  (.seq (.r [.mv 2 (.c (.d (.b true)))])
  (.ret)))⟩
def sl1Small_m : Fn := ⟨1, [.t 2], false,
  .seq (.r [.mv 2 (.c (.d (.b false))),
    .kill [2]])
  (.seq (.r [.mv 3 (.t 0),
    .cvi 4 .i64 (.t 3),
    .call 5 true [] (.c (.clo sl1In [])) [(.t 4), (.c (.d (.i .i64 97))), (.c (.d (.i .i64 122)))],
    .mv 2 (.t 5),
    .keep [2]])
  (.ret))⟩
def sl1Large_m : Fn := ⟨1, [.t 2], false,
  .seq (.r [.mv 2 (.c (.d (.b false))),
    .kill [2]])
  (.seq (.r [.mv 3 (.t 0),
    .cvi 4 .i64 (.t 3),
    .call 5 true [] (.c (.clo sl1In [])) [(.t 4), (.c (.d (.i .i64 65))), (.c (.d (.i .i64 90)))],
    .mv 2 (.t 5),
    .keep [2]])
  (.ret))⟩
def sl1Digit_m : Fn := ⟨1, [.t 2], false,
  .seq (.r [.mv 2 (.c (.d (.b false))),
    .kill [2]])
  (.seq (.r [.mv 3 (.t 0),
    .cvi 4 .i64 (.t 3),
    .call 5 true [] (.c (.clo sl1In [])) [(.t 4), (.c (.d (.i .i64 48))), (.c (.d (.i .i64 57)))],
    .mv 2 (.t 5),
    .keep [2]])
  (.ret))⟩
def iin_m : Fn := ⟨3, [.t 6], false,
  .seq (.r [.mv 6 (.c (.d (.b false))),
    .kill [6]])
  (.seq (.r [.mv 7 (.t 0),
    .mv 8 (.t 1),
    .bin 9 .geq .num (.t 7) (.t 8),
    .mv 10 (.t 9),
    .gd 10 true (some 11) (.mv 11 (.t 0)),
    .kill [0, 1, 7, 8, 9],
    .gd 10 true (some 12) (.mv 12 (.t 2)),
    .gd 10 true (some 13) (.bin 13 .leq .num (.t 11) (.t 12)),
    .pick 14 (.t 10) (.t 13) (.c (.d (.b false))),
    .kill [2, 10, 11, 12, 13],
    .mv 6 (.t 14),
    .keep [6]])
  (.ret))⟩
/-- live: [0, 3]; objects: [] -/
def iPlain_l0 : C :=
  .seq (.seq (.r [.mv 4 (.t 3),
      .mv 5 (.t 0),
      .lns 6 (.t 5),
      .bin 7 .lss .num (.t 4) (.t 6),
      .kill [4, 5, 6]])
    (.cond (.t 7)
      (.pre [.kill [7]] (.skip))
      (.pre [.keep []] (.ex 0))))
    (.seq (.blk 1 (.seq (.r [.mv 10 (.t 0),
      .mv 11 (.t 3),
      .ix 12 (.t 10) (.t 11),
      .call 13 true [] (.c (.clo iisPlain [])) [(.t 12)],
      .not 14 (.t 13),
      .keep [14, 3, 0]])
    (.cond (.t 14)
      (.pre [.keep []] (.seq (.r [.mv 2 (.c (.d (.b false)))])
      (.ret)))
      (.pre [.kill [14]] (.skip)))))
    (.r [.mv 8 (.t 3),
      .bin 9 .add .num (.t 8) (.c (.d (.i .i64 1))),
      .mv 3 (.t 9),
      .kill [8, 9]]))
def iPlain_m : Fn := ⟨1, [.t 2], false,
  .seq (.r [.mv 2 (.c (.d (.b false))),
    .kill [2]])
  (.seq (.seq (.r [.mv 3 (.c (.d (.i .i64 0)))])
  (.blk 0 (.pre [.keep [3, 0]] (.loop iPlain_l0))))
  (.seq (.r [.mv 2 (.c (.d (.b true)))])
  (.ret)))⟩
def iisPlain_m : Fn := ⟨1, [.t 2], false,
  .seq (.r [.mv 2 (.c (.d (.b false))),
    .kill [2]])
  (.seq (.r [.mv 3 (.t 0),
    .bin 4 .geq .num (.t 3) (.c (.d (.u 32))),
    .mv 5 (.t 4),
    .gd 5 true (some 6) (.mv 6 (.t 0)),
    .gd 5 true (some 7) (.bin 7 .leq .num (.t 6) (.c (.d (.u 126)))),
    .pick 8 (.t 5) (.t 7) (.c (.d (.b false))),
    .kill [0, 3, 4, 5, 6, 7],
    .mv 2 (.t 8),
    .keep [2]])
  (.ret))⟩
def tabL : List (Nat × Fn) := [(wFnExactMultiNode, wFnExactMultiNode_m), (wszItemS, wszItemS_m), (wszPropS, wszPropS_m), (sMultiNode, sMultiNode_m), (wtoItemS, wtoItemS_m), (wtoPropS, wtoPropS_m), (iMultiNode, iMultiNode_m), (weqNode, weqNode_m), (weqItemS, weqItemS_m), (weqPropS, weqPropS_m), (wmarkItemS, wmarkItemS_m), (wmarkPropS, wmarkPropS_m), (wmarkNode, wmarkNode_m), (wheldNode, wheldNode_m), (wszItem, wszItem_m), (wszProp, wszProp_m), (sl18Dav, sl18Dav_m), (sPathText, sPathText_m), (wtoItem, wtoItem_m), (wtoProp, wtoProp_m), (idavNode, idavNode_m), (itextNode, itextNode_m), (iPathText, iPathText_m), (weqNodeS, weqNodeS_m), (weqItem, weqItem_m), (weqProp, weqProp_m), (wmarkStringS, wmarkStringS_m), (wmarkText, wmarkText_m), (wmarkNodeS, wmarkNodeS_m), (wheldNodeS, wheldNodeS_m), (wszStringS, wszStringS_m), (sPathOk, sPathOk_m), (sQuote, sQuote_m), (wtoStringS, wtoStringS_m), (iPathOk, iPathOk_m), (iQuote, iQuote_m), (weqStringS, weqStringS_m), (sNameOk, sNameOk_m), (sl2Free, sl2Free_m), (sl2Digit, sl2Digit_m), (iNameOk, iNameOk_m), (iisSmall, iisSmall_m), (iisLarge, iisLarge_m), (iisDigit, iisDigit_m), (sl1In, sl1In_m), (sPlain, sPlain_m), (sl1Small, sl1Small_m), (sl1Large, sl1Large_m), (sl1Digit, sl1Digit_m), (iin, iin_m), (iPlain, iPlain_m), (iisPlain, iisPlain_m)]
end Go.Proofs.YtfklggpopffkjaaK
