import Derived.Test.YtfklggpopffkjaaJ24
import Derived.Test.YtfklggpopffkjaaProg
import Derived.KernelRfl
set_option linter.unusedVariables false
set_option linter.unusedSimpArgs false
namespace Go.Proofs.YtfklggpopffkjaaK
open Go.RowKit
def wFnPatches : Nat := 6
def wbig : Nat := 30
def sDrawPatch : Nat := 31
def iPatch : Nat := 32
def sPatch : Nat := 33
def wsameTree : Nat := 34
def iSamePath : Nat := 35
def wsameRes : Nat := 36
def iTreeOk : Nat := 37
def sl1New : Nat := 84
def sl10Any : Nat := 85
def sl10Path : Nat := 86
def sl12Any : Nat := 87
def icopyTree : Nat := 88
def iFindRes : Nat := 89
def iSetProps : Nat := 90
def sTreeOk : Nat := 73
def sl10CopyAll : Nat := 91
def sFindRes : Nat := 92
def sSetProps : Nat := 93
def wsameTexts : Nat := 94
def wsameProps : Nat := 95
def iresOk : Nat := 96
def iLessPath : Nat := 97
def iIsColl : Nat := 98
def iAbove : Nat := 99
def sl10Draw : Nat := 129
def sl1Below : Nat := 130
def sl2Any : Nat := 131
def sl1Int : Nat := 132
def sl10OneProp : Nat := 133
def sNumText : Nat := 134
def sl1Once : Nat := 135
def sl2Name : Nat := 136
def sl2Draw : Nat := 137
def sl12Sets : Nat := 138
def sl1Str : Nat := 139
def icopyRes : Nat := 140
def ipropOk : Nat := 141
def isetProp : Nat := 142
def iPropsOk : Nat := 143
def sl1In : Nat := 38
def sPathOk : Nat := 108
def sPropsOk : Nat := 117
def sLessPath : Nat := 118
def sIsColl : Nat := 119
def sAbove : Nat := 120
def sl10Copy : Nat := 144
def sSamePath : Nat := 145
def sl10Prop : Nat := 146
def sl12One : Nat := 147
def iin : Nat := 40
def iPathOk : Nat := 111
def icopyPath : Nat := 148
def sMakeColl : Nat := 165
def sPutFile : Nat := 166
def sl10Props : Nat := 167
def sl1Byte : Nat := 168
def iPlain : Nat := 169
def iSmallName : Nat := 170
def ilessProp : Nat := 171
def sNameOk : Nat := 151
def sl10LessProp : Nat := 162
def sPlain : Nat := 172
def sSmallName : Nat := 173
def iNameOk : Nat := 154
def sl11May : Nat := 183
def sl11Put : Nat := 184
def iisPlain : Nat := 185
def iisSmall : Nat := 155
def iisDigit : Nat := 157
def sl1Small : Nat := 174
def sl1Digit : Nat := 176
def x_strings_Contains : Nat := 177
abbrev TProp : T := .pr .str (.pr .str .str)
abbrev TRes : T := .pr (.sl .str) (.pr .bool (.pr .str (.pr (.int .i64) (.sl TProp))))
abbrev TSet : T := .pr .bool TProp
abbrev Tl1Cur : T := .pr (.sl .u8) (.pr (.int .i64) (.int .i64))
/-- live: [3, 4, 6, 10]; objects: [] -/
def wFnPatches_l0 : C :=
  .seq (.seq (.r [.mv 54 (.t 10),
      .mv 55 (.t 3),
      .len 56 (.t 55),
      .bin 57 .lss .num (.t 54) (.t 56),
      .kill [54, 55, 56]])
    (.cond (.t 57)
      (.pre [.kill [57]] (.skip))
      (.pre [.keep [6]] (.ex 0))))
    (.seq (.blk 1 (.seq (.post (.r [.mv 60 (.t 3),
      .mv 61 (.t 10),
      .ia 62 5 (.t 60) (.t 61),
      .fa 63 (.t 62) 0,
      .ld 64 1 false (.t 63),
      .mv 65 (.t 4),
      .call 66 true [] (.c (.clo iSamePath [])) [(.t 64), (.t 65)],
      .not 67 (.t 66),
      .mv 68 (.t 67),
      .gd 68 true (some 69) (.mv 69 (.t 6)),
      .gd 68 true (some 70) (.mv 70 (.t 10)),
      .gd 68 true (some 71) (.ia 71 5 (.t 69) (.t 70)),
      .gd 68 true (some 72) (.ld 72 5 true (.t 71)),
      .gd 68 true (some 73) (.mv 73 (.t 3)),
      .gd 68 true (some 74) (.mv 74 (.t 10)),
      .gd 68 true (some 75) (.ia 75 5 (.t 73) (.t 74)),
      .gd 68 true (some 76) (.ld 76 5 true (.t 75)),
      .gd 68 true (some 77) (.call 77 true [] (.c (.clo wsameRes [])) [(.t 72), (.t 76)]),
      .gd 68 true (some 78) (.not 78 (.t 77)),
      .pick 79 (.t 68) (.t 78) (.c (.d (.b false))),
      .mv 80 (.t 79),
      .gd 80 false (some 81) (.mv 81 (.t 6)),
      .gd 80 false (some 82) (.mv 82 (.t 10)),
      .gd 80 false (some 83) (.ia 83 5 (.t 81) (.t 82)),
      .gd 80 false (some 84) (.fa 84 (.t 83) 2),
      .gd 80 false (some 85) (.ld 85 1 false (.t 84)),
      .gd 80 false (some 86) (.mv 86 (.t 3)),
      .gd 80 false (some 87) (.mv 87 (.t 10)),
      .gd 80 false (some 88) (.ia 88 5 (.t 86) (.t 87)),
      .gd 80 false (some 89) (.fa 89 (.t 88) 2),
      .gd 80 false (some 90) (.ld 90 1 false (.t 89)),
      .gd 80 false (some 91) (.bin 91 .neq .num (.t 85) (.t 90)),
      .pick 92 (.t 80) (.c (.d (.b true))) (.t 91),
      .mv 93 (.t 92),
      .gd 93 false (some 94) (.mv 94 (.t 6)),
      .gd 93 false (some 95) (.mv 95 (.t 10)),
      .gd 93 false (some 96) (.ia 96 5 (.t 94) (.t 95)),
      .gd 93 false (some 97) (.fa 97 (.t 96) 3),
      .gd 93 false (some 98) (.ld 98 1 false (.t 97)),
      .gd 93 false (some 99) (.mv 99 (.t 3)),
      .gd 93 false (some 100) (.mv 100 (.t 10)),
      .gd 93 false (some 101) (.ia 101 5 (.t 99) (.t 100)),
      .gd 93 false (some 102) (.fa 102 (.t 101) 3),
      .gd 93 false (some 103) (.ld 103 1 false (.t 102)),
      .gd 93 false (some 104) (.bin 104 .neq .num (.t 98) (.t 103)),
      .pick 105 (.t 93) (.c (.d (.b true))) (.t 104),
      .mv 106 (.t 105),
      .gd 106 false (some 107) (.mv 107 (.t 6)),
      .gd 106 false (some 108) (.mv 108 (.t 10)),
      .gd 106 false (some 109) (.ia 109 5 (.t 107) (.t 108)),
      .gd 106 false (some 110) (.fa 110 (.t 109) 0),
      .gd 106 false (some 111) (.ld 111 1 false (.t 110)),
      .gd 106 false (some 112) (.mv 112 (.t 3)),
      .gd 106 false (some 113) (.mv 113 (.t 10)),
      .gd 106 false (some 114) (.ia 114 5 (.t 112) (.t 113)),
      .gd 106 false (some 115) (.fa 115 (.t 114) 0),
      .gd 106 false (some 116) (.ld 116 1 false (.t 115)),
      .gd 106 false (some 117) (.call 117 true [] (.c (.clo iSamePath [])) [(.t 111), (.t 116)]),
      .gd 106 false (some 118) (.not 118 (.t 117)),
      .pick 119 (.t 106) (.c (.d (.b true))) (.t 118)]) [.keep [119, 10, 6, 4, 3]])
    (.cond (.t 119)
      (.pre [.keep []] (.seq (.r [.mv 2 (.c (.d (.b false)))])
      (.ret)))
      (.pre [.kill [119]] (.skip)))))
    (.r [.mv 58 (.t 10),
      .bin 59 .add .num (.t 58) (.c (.d (.i .i64 1))),
      .mv 10 (.t 59),
      .kill [58, 59]]))
def wFnPatches_m : Fn := ⟨1, [.t 2], false,
  .seq (.r [.mv 2 (.c (.d (.b false))),
    .kill [2]])
  (.seq (.seq (.r [.mv 11 (.t 0),
    .call 12 true [] (.c (.clo wbig [])) [(.t 11)],
    .kill [11]])
  (.cond (.t 12)
    (.pre [.keep []] (.seq (.r [.mv 2 (.c (.d (.b true)))])
    (.ret)))
    (.pre [.kill [12]] (.skip))))
  (.seq (.r [.mv 14 (.t 0),
    .call 15 true [] (.c (.clo sDrawPatch [])) [(.t 14)],
    .mv 13 (.t 15),
    .ext 16 (.t 13) 0,
    .ext 17 (.t 13) 1,
    .ext 18 (.t 13) 2,
    .mv 3 (.t 16),
    .kill [0, 13, 14, 15, 16],
    .mv 4 (.t 17),
    .mv 5 (.t 18),
    .keep [5, 4, 3]])
  (.seq (.r [.mv 20 (.t 3),
    .mv 21 (.t 4),
    .mv 22 (.t 5),
    .call 23 true [] (.c (.clo iPatch [])) [(.t 20), (.t 21), (.t 22)],
    .mv 19 (.t 23),
    .ext 24 (.t 19) 0,
    .ext 25 (.t 19) 1,
    .kill [19, 20, 21, 22, 23],
    .mv 6 (.t 24),
    .mv 7 (.t 25),
    .keep [7, 6, 5, 4, 3]])
  (.seq (.r [.mv 27 (.t 3),
    .mv 28 (.t 4),
    .mv 29 (.t 5),
    .call 30 true [] (.c (.clo sPatch [])) [(.t 27), (.t 28), (.t 29)],
    .mv 26 (.t 30),
    .kill [5, 27, 28, 29, 30],
    .ext 31 (.t 26) 0,
    .ext 32 (.t 26) 1,
    .mv 8 (.t 31),
    .mv 9 (.t 32),
    .keep [9, 8, 7, 6, 4, 3]])
  (.seq (.seq (.r [.mv 33 (.t 7),
    .mv 34 (.t 9),
    .bin 35 .neq .num (.t 33) (.t 34),
    .mv 36 (.t 35),
    .gd 36 false (some 37) (.mv 37 (.t 6)),
    .gd 36 false (some 38) (.mv 38 (.t 8)),
    .kill [8, 9, 33, 34, 35],
    .gd 36 false (some 39) (.call 39 true [] (.c (.clo wsameTree [])) [(.t 37), (.t 38)]),
    .gd 36 false (some 40) (.not 40 (.t 39)),
    .pick 41 (.t 36) (.c (.d (.b true))) (.t 40),
    .kill [36, 37, 38, 39, 40],
    .mv 42 (.t 41),
    .gd 42 false (some 43) (.mv 43 (.t 6)),
    .gd 42 false (some 44) (.len 44 (.t 43)),
    .gd 42 false (some 45) (.mv 45 (.t 3)),
    .gd 42 false (some 46) (.len 46 (.t 45)),
    .gd 42 false (some 47) (.bin 47 .neq .num (.t 44) (.t 46)),
    .kill [41, 43, 44, 45, 46],
    .pick 48 (.t 42) (.c (.d (.b true))) (.t 47),
    .keep [48, 7, 6, 4, 3]])
  (.cond (.t 48)
    (.pre [.keep []] (.seq (.r [.mv 2 (.c (.d (.b false)))])
    (.ret)))
    (.pre [.kill [48]] (.skip))))
  (.seq (.seq (.r [.mv 49 (.t 7),
    .bin 50 .neq .num (.t 49) (.c (.d (.i .i64 207))),
    .kill [7, 49]])
  (.cond (.t 50)
    (.pre [.kill [4, 50]] (.seq (.r [.mv 51 (.t 6),
      .mv 52 (.t 3),
      .call 53 true [] (.c (.clo wsameTree [])) [(.t 51), (.t 52)],
      .mv 2 (.t 53),
      .keep [2]])
    (.ret)))
    (.pre [.kill [50]] (.skip))))
  (.seq (.seq (.r [.mv 10 (.c (.d (.i .i64 0)))])
  (.blk 0 (.pre [.keep [10, 6, 4, 3]] (.loop wFnPatches_l0))))
  (.seq (.r [.mv 120 (.t 6),
    .call 121 true [] (.c (.clo iTreeOk [])) [(.t 120)],
    .mv 2 (.t 121),
    .keep [2]])
  (.ret)))))))))⟩
def wbig_m : Fn := ⟨1, [.t 2], false,
  .seq (.r [.mv 2 (.c (.d (.b false))),
    .kill [2]])
  (.seq (.r [.mv 3 (.t 0),
    .len 4 (.t 3),
    .bin 5 .gtr .num (.t 4) (.c (.d (.i .i64 1048576))),
    .mv 2 (.t 5),
    .keep [2]])
  (.ret))⟩
def sDrawPatch_m : Fn := ⟨1, [.t 2, .t 3, .t 4], false,
  .seq (.r [.mv 2 (.c (.nil TRes)),
    .opn 2 2 false,
    .mv 3 (.c (.nil .str)),
    .opn 3 3 false,
    .mv 4 (.c (.nil TSet)),
    .opn 4 4 false,
    .keep [0],
    .drop [66, 67, 68]])
  (.seq (.r [.mv 7 (.t 0),
    .call 8 false [] (.c (.clo sl1New [])) [(.t 7)],
    .mv 5 (.t 8),
    .keep [5]])
  (.seq (.r [.mv 9 (.t 5),
    .call 10 false [9064] (.c (.clo sl10Any [])) [(.t 9)],
    .mv 6 (.t 10),
    .kill [9, 10]])
  (.seq (.r [.mv 11 (.t 6),
    .mv 12 (.t 5),
    .mv 13 (.t 6),
    .call 14 false [9064, 11064] (.c (.clo sl10Path [])) [(.t 12), (.t 13)],
    .mv 15 (.t 5),
    .call 16 false [9064] (.c (.clo sl12Any [])) [(.t 15)],
    .kill [5, 6, 12, 13, 15],
    .mv 2 (.t 11),
    .ren 11064 66,
    .mv 3 (.t 14),
    .ren 15064 67,
    .mv 4 (.t 16),
    .ren 17064 68,
    .keep [4, 3, 2],
    .drop [9064, 11064, 15064, 17064]])
  (.ret))))⟩
def iPatch_m : Fn := ⟨3, [.t 6, .t 7], false,
  .seq (.r [.mv 6 (.c (.nil TRes)),
    .opn 6 6 false,
    .mv 7 (.c (.d (.i .i64 0))),
    .kill [6, 7],
    .drop [70]])
  (.seq (.r [.mv 12 (.t 0),
    .call 13 false [] (.c (.clo icopyTree [])) [(.t 12)],
    .mv 8 (.t 13),
    .kill [12, 13]])
  (.seq (.r [.mv 14 (.t 0),
    .mv 15 (.t 1),
    .call 16 true [] (.c (.clo iFindRes [])) [(.t 14), (.t 15)],
    .mv 9 (.t 16),
    .kill [14, 15, 16]])
  (.seq (.blk 0 (.seq (.r [.mv 18 (.t 0),
    .call 19 true [] (.c (.clo iTreeOk [])) [(.t 18)],
    .not 20 (.t 19),
    .mv 17 (.t 20),
    .kill [18, 19, 20]])
  (.cond (.t 17)
    (.pre [.keep [8]] (.seq (.r [.mv 21 (.t 8),
      .mv 6 (.t 21),
      .ren 14064 70,
      .mv 7 (.c (.d (.i .i64 500))),
      .kill [8, 21],
      .drop [14064]])
    (.ret)))
    (.pre [.kill [17]] (.seq (.r [.mv 23 (.t 1),
      .len 24 (.t 23),
      .bin 25 .eql .num (.t 24) (.c (.d (.i .i64 0))),
      .mv 22 (.t 25),
      .kill [1, 23, 24, 25]])
    (.cond (.t 22)
      (.pre [.keep [8]] (.seq (.r [.mv 26 (.t 8),
        .mv 6 (.t 26),
        .ren 14064 70,
        .mv 7 (.c (.d (.i .i64 403))),
        .kill [8, 26],
        .drop [14064]])
      (.ret)))
      (.pre [.kill [22]] (.seq (.r [.mv 28 (.t 9),
        .bin 29 .lss .num (.t 28) (.c (.d (.i .i64 0))),
        .mv 27 (.t 29),
        .kill [28, 29]])
      (.cond (.t 27)
        (.pre [.keep [8]] (.seq (.r [.mv 30 (.t 8),
          .mv 6 (.t 30),
          .ren 14064 70,
          .mv 7 (.c (.d (.i .i64 404))),
          .kill [8, 30],
          .drop [14064]])
        (.ret)))
        (.pre [.kill [27]] (.skip)))))))))))
  (.seq (.r [.mv 32 (.t 0),
    .mv 33 (.t 9),
    .ia 34 5 (.t 32) (.t 33),
    .fa 35 (.t 34) 4,
    .ld 36 1 false (.t 35),
    .kill [0, 32, 33, 34, 35],
    .mv 37 (.t 2),
    .call 38 false [] (.c (.clo iSetProps [])) [(.t 36), (.t 37)],
    .mv 31 (.t 38),
    .ext 39 (.t 31) 0,
    .ext 40 (.t 31) 1,
    .kill [2, 31, 36, 37, 38],
    .mv 10 (.t 39),
    .mv 11 (.t 40),
    .keep [11, 10, 9, 8]])
  (.seq (.seq (.r [.mv 41 (.t 11),
    .not 42 (.t 41),
    .kill [11, 41]])
  (.cond (.t 42)
    (.pre [.keep [8], .drop [39064]] (.seq (.r [.mv 43 (.t 8),
      .mv 6 (.t 43),
      .ren 14064 70,
      .mv 7 (.c (.d (.i .i64 409))),
      .kill [8, 43],
      .drop [14064]])
    (.ret)))
    (.pre [.kill [42]] (.skip))))
  (.seq (.r [.mv 44 (.t 8),
    .mv 45 (.t 9),
    .mv 46 (.t 10),
    .ia 47 5 (.t 44) (.t 45),
    .fa 48 (.t 47) 4,
    .kill [9, 10, 44, 45, 47],
    .st 1 (.t 48) (.t 46),
    .keep [8],
    .drop [39064]])
  (.seq (.r [.mv 49 (.t 8),
    .mv 6 (.t 49),
    .ren 14064 70,
    .mv 7 (.c (.d (.i .i64 207))),
    .kill [8, 49],
    .drop [14064]])
  (.ret))))))))⟩
def sPatch_m : Fn := ⟨3, [.t 6, .t 7], false,
  .seq (.r [.mv 6 (.c (.nil TRes)),
    .opn 6 6 false,
    .mv 7 (.c (.d (.i .i64 0))),
    .kill [6, 7],
    .drop [70]])
  (.seq (.r [.mv 12 (.t 0),
    .call 13 false [] (.c (.clo sl10CopyAll [])) [(.t 12)],
    .mv 8 (.t 13),
    .kill [12, 13]])
  (.seq (.r [.mv 14 (.t 0),
    .mv 15 (.t 1),
    .call 16 true [] (.c (.clo sFindRes [])) [(.t 14), (.t 15)],
    .mv 9 (.t 16),
    .kill [14, 15, 16]])
  (.seq (.blk 0 (.seq (.r [.mv 18 (.t 0),
    .call 19 true [] (.c (.clo sTreeOk [])) [(.t 18)],
    .not 20 (.t 19),
    .mv 17 (.t 20),
    .kill [18, 19, 20]])
  (.cond (.t 17)
    (.pre [.keep [8]] (.seq (.r [.mv 21 (.t 8),
      .mv 6 (.t 21),
      .ren 14064 70,
      .mv 7 (.c (.d (.i .i64 500))),
      .kill [8, 21],
      .drop [14064]])
    (.ret)))
    (.pre [.kill [17]] (.seq (.r [.mv 23 (.t 1),
      .len 24 (.t 23),
      .bin 25 .eql .num (.t 24) (.c (.d (.i .i64 0))),
      .mv 22 (.t 25),
      .kill [1, 23, 24, 25]])
    (.cond (.t 22)
      (.pre [.keep [8]] (.seq (.r [.mv 26 (.t 8),
        .mv 6 (.t 26),
        .ren 14064 70,
        .mv 7 (.c (.d (.i .i64 403))),
        .kill [8, 26],
        .drop [14064]])
      (.ret)))
      (.pre [.kill [22]] (.seq (.r [.mv 28 (.t 9),
        .bin 29 .lss .num (.t 28) (.c (.d (.i .i64 0))),
        .mv 27 (.t 29),
        .kill [28, 29]])
      (.cond (.t 27)
        (.pre [.keep [8]] (.seq (.r [.mv 30 (.t 8),
          .mv 6 (.t 30),
          .ren 14064 70,
          .mv 7 (.c (.d (.i .i64 404))),
          .kill [8, 30],
          .drop [14064]])
        (.ret)))
        (.pre [.kill [27]] (.skip)))))))))))
  (.seq (.r [.mv 32 (.t 0),
    .mv 33 (.t 9),
    .ia 34 5 (.t 32) (.t 33),
    .fa 35 (.t 34) 4,
    .ld 36 1 false (.t 35),
    .kill [0, 32, 33, 34, 35],
    .mv 37 (.t 2),
    .call 38 false [] (.c (.clo sSetProps [])) [(.t 36), (.t 37)],
    .mv 31 (.t 38),
    .ext 39 (.t 31) 0,
    .ext 40 (.t 31) 1,
    .kill [2, 31, 36, 37, 38],
    .mv 10 (.t 39),
    .mv 11 (.t 40),
    .keep [11, 10, 9, 8]])
  (.seq (.seq (.r [.mv 41 (.t 11),
    .not 42 (.t 41),
    .kill [11, 41]])
  (.cond (.t 42)
    (.pre [.keep [8], .drop [39064]] (.seq (.r [.mv 43 (.t 8),
      .mv 6 (.t 43),
      .ren 14064 70,
      .mv 7 (.c (.d (.i .i64 409))),
      .kill [8, 43],
      .drop [14064]])
    (.ret)))
    (.pre [.kill [42]] (.skip))))
  (.seq (.r [.mv 44 (.t 8),
    .mv 45 (.t 9),
    .mv 46 (.t 10),
    .ia 47 5 (.t 44) (.t 45),
    .fa 48 (.t 47) 4,
    .kill [9, 10, 44, 45, 47],
    .st 1 (.t 48) (.t 46),
    .keep [8],
    .drop [39064]])
  (.seq (.r [.mv 49 (.t 8),
    .mv 6 (.t 49),
    .ren 14064 70,
    .mv 7 (.c (.d (.i .i64 207))),
    .kill [8, 49],
    .drop [14064]])
  (.ret))))))))⟩
/-- live: [0, 1, 5]; objects: [] -/
def wsameTree_l0 : C :=
  .seq (.seq (.r [.mv 11 (.t 5),
      .mv 12 (.t 0),
      .len 13 (.t 12),
      .bin 14 .lss .num (.t 11) (.t 13),
      .kill [11, 12, 13]])
    (.cond (.t 14)
      (.pre [.kill [14]] (.skip))
      (.pre [.keep []] (.ex 0))))
    (.seq (.blk 1 (.seq (.post (.r [.mv 17 (.t 0),
      .mv 18 (.t 5),
      .ia 19 5 (.t 17) (.t 18),
      .ld 20 5 true (.t 19),
      .mv 21 (.t 1),
      .mv 22 (.t 5),
      .ia 23 5 (.t 21) (.t 22),
      .ld 24 5 true (.t 23),
      .call 25 true [] (.c (.clo wsameRes [])) [(.t 20), (.t 24)],
      .not 26 (.t 25)]) [.keep [26, 5, 1, 0]])
    (.cond (.t 26)
      (.pre [.keep []] (.seq (.r [.mv 4 (.c (.d (.b false)))])
      (.ret)))
      (.pre [.kill [26]] (.skip)))))
    (.r [.mv 15 (.t 5),
      .bin 16 .add .num (.t 15) (.c (.d (.i .i64 1))),
      .mv 5 (.t 16),
      .kill [15, 16]]))
def wsameTree_m : Fn := ⟨2, [.t 4], false,
  .seq (.r [.mv 4 (.c (.d (.b false))),
    .kill [4]])
  (.seq (.seq (.r [.mv 6 (.t 0),
    .len 7 (.t 6),
    .mv 8 (.t 1),
    .len 9 (.t 8),
    .bin 10 .neq .num (.t 7) (.t 9),
    .keep [10, 1, 0]])
  (.cond (.t 10)
    (.pre [.keep []] (.seq (.r [.mv 4 (.c (.d (.b false)))])
    (.ret)))
    (.pre [.kill [10]] (.skip))))
  (.seq (.seq (.r [.mv 5 (.c (.d (.i .i64 0)))])
  (.blk 0 (.pre [.keep [5, 1, 0]] (.loop wsameTree_l0))))
  (.seq (.r [.mv 4 (.c (.d (.b true)))])
  (.ret))))⟩
/-- live: [0, 1, 12, 13]; objects: [] -/
def iSamePath_l0 : C :=
  .seq (.r [.bin 14 .lss .num (.t 13) (.t 12)])
    (.seq (.cond (.t 14)
      (.pre [.kill [14]] (.skip))
      (.pre [.keep []] (.ex 0)))
    (.seq (.blk 1 (.seq (.r [.mv 15 (.t 13),
      .mv 5 (.t 15),
      .kill [15]])
    (.seq (.post (.r [.mv 16 (.t 0),
      .mv 17 (.t 5),
      .ia 18 1 (.t 16) (.t 17),
      .ld 19 1 false (.t 18),
      .mv 20 (.t 1),
      .mv 21 (.t 5),
      .ia 22 1 (.t 20) (.t 21),
      .ld 23 1 false (.t 22),
      .bin 24 .neq .num (.t 19) (.t 23)]) [.keep [24, 13, 12, 1, 0]])
    (.cond (.t 24)
      (.pre [.keep []] (.seq (.r [.mv 4 (.c (.d (.b false)))])
      (.ret)))
      (.pre [.kill [24]] (.skip))))))
    (.r [.bin 25 .add .num (.t 13) (.c (.d (.i .i64 1))),
      .mv 13 (.t 25),
      .kill [25]])))
def iSamePath_m : Fn := ⟨2, [.t 4], false,
  .seq (.r [.mv 4 (.c (.d (.b false))),
    .kill [4]])
  (.seq (.seq (.r [.mv 6 (.t 0),
    .len 7 (.t 6),
    .mv 8 (.t 1),
    .len 9 (.t 8),
    .bin 10 .neq .num (.t 7) (.t 9),
    .keep [10, 1, 0]])
  (.cond (.t 10)
    (.pre [.keep []] (.seq (.r [.mv 4 (.c (.d (.b false)))])
    (.ret)))
    (.pre [.kill [10]] (.skip))))
  (.seq (.seq (.r [.mv 11 (.t 0),
    .len 12 (.t 11),
    .mv 13 (.c (.d (.i .i64 0))),
    .kill [11]])
  (.blk 0 (.pre [.keep [13, 12, 1, 0]] (.loop iSamePath_l0))))
  (.seq (.r [.mv 4 (.c (.d (.b true)))])
  (.ret))))⟩
def wsameRes_m : Fn := ⟨2, [.t 4], false,
  .seq (.r [.bx 2 TRes true (.t 0),
    .bx 3 TRes true (.t 1),
    .mv 4 (.c (.d (.b false))),
    .keep [3, 2]])
  (.seq (.r [.fa 5 (.t 2) 0,
    .ld 6 1 false (.t 5),
    .fa 7 (.t 3) 0,
    .ld 8 1 false (.t 7),
    .call 9 true [] (.c (.clo wsameTexts [])) [(.t 6), (.t 8)],
    .mv 10 (.t 9),
    .kill [5, 6, 7, 8, 9],
    .gd 10 true (some 11) (.fa 11 (.t 2) 1),
    .gd 10 true (some 12) (.ld 12 1 false (.t 11)),
    .gd 10 true (some 13) (.fa 13 (.t 3) 1),
    .gd 10 true (some 14) (.ld 14 1 false (.t 13)),
    .gd 10 true (some 15) (.bin 15 .eql .flag (.t 12) (.t 14)),
    .pick 16 (.t 10) (.t 15) (.c (.d (.b false))),
    .kill [10, 11, 12, 13, 14, 15],
    .mv 17 (.t 16),
    .gd 17 true (some 18) (.fa 18 (.t 2) 2),
    .gd 17 true (some 19) (.ld 19 1 false (.t 18)),
    .gd 17 true (some 20) (.fa 20 (.t 3) 2),
    .gd 17 true (some 21) (.ld 21 1 false (.t 20)),
    .gd 17 true (some 22) (.bin 22 .eql .num (.t 19) (.t 21)),
    .kill [16, 18, 19, 20, 21],
    .pick 23 (.t 17) (.t 22) (.c (.d (.b false))),
    .mv 24 (.t 23),
    .gd 24 true (some 25) (.fa 25 (.t 2) 3),
    .gd 24 true (some 26) (.ld 26 1 false (.t 25)),
    .gd 24 true (some 27) (.fa 27 (.t 3) 3),
    .gd 24 true (some 28) (.ld 28 1 false (.t 27)),
    .kill [17, 22, 23, 25, 27],
    .gd 24 true (some 29) (.bin 29 .eql .num (.t 26) (.t 28)),
    .pick 30 (.t 24) (.t 29) (.c (.d (.b false))),
    .mv 31 (.t 30),
    .kill [24, 26, 28, 29, 30],
    .gd 31 true (some 32) (.fa 32 (.t 2) 4),
    .gd 31 true (some 33) (.ld 33 1 false (.t 32)),
    .gd 31 true (some 34) (.fa 34 (.t 3) 4),
    .gd 31 true (some 35) (.ld 35 1 false (.t 34)),
    .gd 31 true (some 36) (.call 36 true [] (.c (.clo wsameProps [])) [(.t 33), (.t 35)]),
    .kill [2, 3, 32, 33, 34, 35],
    .pick 37 (.t 31) (.t 36) (.c (.d (.b false))),
    .mv 4 (.t 37),
    .keep [4],
    .drop [66, 67]])
  (.ret))⟩
/-- live: [0, 5, 6, 7]; objects: [] -/
def iTreeOk_l0 : C :=
  .seq (.r [.bin 8 .lss .num (.t 7) (.t 6)])
    (.seq (.cond (.t 8)
      (.pre [.kill [8]] (.skip))
      (.pre [.keep [0]] (.ex 0)))
    (.seq (.blk 1 (.seq (.r [.mv 9 (.t 7),
      .ia 10 5 (.t 5) (.t 7),
      .ld 11 5 true (.t 10),
      .al 4 TRes true,
      .mv 3 (.t 9),
      .st 5 (.t 4) (.t 11),
      .kill [9, 10, 11]])
    (.seq (.post (.r [.ld 12 5 true (.t 4),
      .call 13 true [] (.c (.clo iresOk [])) [(.t 12)],
      .not 14 (.t 13),
      .mv 15 (.t 14),
      .gd 15 false (some 16) (.mv 16 (.t 3)),
      .gd 15 false (some 17) (.bin 17 .gtr .num (.t 16) (.c (.d (.i .i64 0)))),
      .gd 15 false (some 18) (.mv 18 (.t 17)),
      .gd 18 true (some 19) (.mv 19 (.t 0)),
      .gd 18 true (some 20) (.mv 20 (.t 3)),
      .gd 18 true (some 21) (.bin 21 .sub .num (.t 20) (.c (.d (.i .i64 1)))),
      .gd 18 true (some 22) (.ia 22 5 (.t 19) (.t 21)),
      .gd 18 true (some 23) (.fa 23 (.t 22) 0),
      .gd 18 true (some 24) (.ld 24 1 false (.t 23)),
      .gd 18 true (some 25) (.fa 25 (.t 4) 0),
      .gd 18 true (some 26) (.ld 26 1 false (.t 25)),
      .gd 18 true (some 27) (.call 27 true [] (.c (.clo iLessPath [])) [(.t 24), (.t 26)]),
      .gd 18 true (some 28) (.not 28 (.t 27)),
      .gd 15 false (some 29) (.pick 29 (.t 18) (.t 28) (.c (.d (.b false)))),
      .pick 30 (.t 15) (.c (.d (.b true))) (.t 29),
      .mv 31 (.t 30),
      .gd 31 false (some 32) (.mv 32 (.t 0)),
      .gd 31 false (some 33) (.fa 33 (.t 4) 0),
      .gd 31 false (some 34) (.ld 34 1 false (.t 33)),
      .gd 31 false (some 35) (.call 35 true [] (.c (.clo iAbove [])) [(.t 34)]),
      .gd 31 false (some 36) (.call 36 true [] (.c (.clo iIsColl [])) [(.t 32), (.t 35)]),
      .gd 31 false (some 37) (.not 37 (.t 36)),
      .pick 38 (.t 31) (.c (.d (.b true))) (.t 37)]) [.keep [38, 7, 6, 5, 0], .drop [68]])
    (.cond (.t 38)
      (.pre [.keep []] (.seq (.r [.mv 2 (.c (.d (.b false)))])
      (.ret)))
      (.pre [.kill [38]] (.skip))))))
    (.r [.bin 39 .add .num (.t 7) (.c (.d (.i .i64 1))),
      .mv 7 (.t 39),
      .kill [39]])))
def iTreeOk_m : Fn := ⟨1, [.t 2], false,
  .seq (.r [.mv 2 (.c (.d (.b false))),
    .kill [2]])
  (.seq (.seq (.r [.mv 5 (.t 0),
    .len 6 (.t 5),
    .mv 7 (.c (.d (.i .i64 0)))])
  (.blk 0 (.pre [.keep [7, 6, 5, 0]] (.loop iTreeOk_l0))))
  (.seq (.r [.mv 40 (.t 0),
    .len 41 (.t 40),
    .bin 42 .leq .num (.t 41) (.c (.d (.i .i64 12))),
    .mv 2 (.t 42),
    .keep [2]])
  (.ret)))⟩
/-- live: [0, 3, 4]; objects: [] -/
def sl1New_l0 : C :=
  .seq (.seq (.r [.mv 8 (.t 4),
      .mv 9 (.t 0),
      .len 10 (.t 9),
      .bin 11 .lss .num (.t 8) (.t 10),
      .mv 12 (.t 11),
      .gd 12 true (some 13) (.mv 13 (.t 4)),
      .gd 12 true (some 14) (.bin 14 .lss .num (.t 13) (.c (.d (.i .i64 4000)))),
      .kill [8, 9, 10, 11, 13],
      .pick 15 (.t 12) (.t 14) (.c (.d (.b false))),
      .keep [15, 4, 3, 0]])
    (.cond (.t 15)
      (.pre [.kill [15]] (.skip))
      (.pre [.kill [4, 15]] (.ex 0))))
    (.seq (.blk 1 (.r [.mv 18 (.t 3),
      .bin 19 .mul .num (.t 18) (.c (.d (.i .i64 137))),
      .mv 20 (.t 0),
      .mv 21 (.t 4),
      .ia 22 1 (.t 20) (.t 21),
      .ld 23 1 false (.t 22),
      .kill [3, 18, 20, 21, 22],
      .cvi 24 .i64 (.t 23),
      .bin 25 .add .num (.t 19) (.t 24),
      .bin 26 .add .num (.t 25) (.c (.d (.i .i64 11))),
      .bin 27 .and .num (.t 26) (.c (.d (.i .i64 1073741823))),
      .kill [19, 23, 24, 25, 26],
      .mv 3 (.t 27),
      .keep [4, 3, 0]]))
    (.r [.mv 16 (.t 4),
      .bin 17 .add .num (.t 16) (.c (.d (.i .i64 1))),
      .mv 4 (.t 17),
      .kill [16, 17]]))
def sl1New_m : Fn := ⟨1, [.t 2], false,
  .seq (.r [.mv 2 (.c (.d (.x (.pointer none)))),
    .kill [2],
    .drop [66]])
  (.seq (.r [.mv 5 (.t 0),
    .len 6 (.t 5),
    .bin 7 .add .num (.c (.d (.i .i64 774774))) (.t 6),
    .mv 3 (.t 7),
    .keep [3, 0]])
  (.seq (.seq (.r [.mv 4 (.c (.d (.i .i64 0)))])
  (.blk 0 (.pre [.keep [4, 3, 0]] (.loop sl1New_l0))))
  (.seq (.r [.mv 28 (.t 0),
    .mv 29 (.t 3),
    .bd 30 [.nil .u8, .d (.i .i64 0), .d (.i .i64 0)] [(0, 1, (.t 28)), (2, 1, (.t 29))],
    .bx 31 Tl1Cur true (.t 30),
    .kill [0, 3, 28, 29, 30],
    .mv 2 (.t 31),
    .ren 95 66,
    .keep [2],
    .drop [95]])
  (.ret))))⟩
/-- live: [3, 5]; objects: [67] -/
def sl10Any_l0 : C :=
  .seq (.seq (.r [.mv 75 (.t 5),
                  .bin 76 .lss .num (.t 75) (.c (.d (.i .i64 12))),
                  .kill [75]])
                (.cond (.t 76)
                  (.pre [.kill [76]] (.skip))
                  (.pre [.keep [3]] (.ex 1))))
                (.seq (.blk 2 (.r [.mv 79 (.t 3),
                  .mv 80 (.t 5),
                  .bin 81 .add .num (.c (.d (.i .i64 10))) (.t 80),
                  .call 82 true [] (.c (.clo sNumText [])) [(.t 81)],
                  .bin 83 .add .num (.c (.d (.s [122]))) (.t 82),
                  .bs 84 .str false 1 [.d (.s [])] [(0, (.t 83))],
                  .kill [3, 80, 81, 82, 83],
                  .bd 85 [.nil .str, .d (.b false), .d (.s []), .d (.i .i64 0), .nil TProp] [(0, 1, (.t 84))],
                  .bs 86 TRes false 1 [.nil .str, .d (.b false), .d (.s []), .d (.i .i64 0), .nil TProp] [(0, (.t 85))],
                  .app 87 TRes false 80 (.t 79) (.t 86),
                  .mv 3 (.t 87),
                  .ren 151 67,
                  .keep [5, 3],
                  .drop [148, 150, 151]]))
                (.r [.mv 77 (.t 5),
                  .bin 78 .add .num (.t 77) (.c (.d (.i .i64 1))),
                  .mv 5 (.t 78),
                  .kill [77, 78]]))
def sl10Any_m : Fn := ⟨1, [.t 2], false,
  .seq (.r [.mv 2 (.c (.nil TRes)),
    .opn 2 2 false,
    .kill [2],
    .drop [66]])
  (.seq (.r [.mv 6 (.t 0),
    .call 7 false [0] (.c (.clo sl10Draw [])) [(.t 6)],
    .mv 3 (.t 7),
    .ren 8064 67,
    .kill [6, 7],
    .drop [8064]])
  (.seq (.seq (.r [.mv 8 (.t 3),
    .len 9 (.t 8),
    .bin 10 .eql .num (.t 9) (.c (.d (.i .i64 0))),
    .kill [8, 9]])
  (.cond (.t 10)
    (.pre [.keep [3]] (.seq (.r [.mv 11 (.t 3),
      .mv 2 (.t 11),
      .ren 67 66,
      .keep [2],
      .drop [67]])
    (.ret)))
    (.pre [.kill [10]] (.skip))))
  (.seq (.r [.mv 12 (.t 0),
    .mv 13 (.t 3),
    .len 14 (.t 13),
    .call 15 true [0] (.c (.clo sl1Below [])) [(.t 12), (.t 14)],
    .mv 4 (.t 15),
    .keep [4, 3, 0]])
  (.seq (.seq (.r [.mv 16 (.t 0),
    .call 17 true [0] (.c (.clo sl1Below [])) [(.t 16), (.c (.d (.i .i64 14)))],
    .kill [16]])
  (.blk 0 (.seq (.r [.bin 19 .eql .num (.t 17) (.c (.d (.i .i64 0))),
    .mv 18 (.t 19),
    .kill [19]])
  (.cond (.t 18)
    (.pre [.kill [17, 18]] (.r [.mv 20 (.t 3),
      .mv 21 (.t 4),
      .mv 22 (.t 0),
      .call 23 false [0] (.c (.clo sl2Any [])) [(.t 22)],
      .ia 24 5 (.t 20) (.t 21),
      .kill [0, 4, 20, 21, 22],
      .fa 25 (.t 24) 0,
      .st 1 (.t 25) (.t 23),
      .keep [3],
      .drop [24064]]))
    (.pre [.kill [18]] (.seq (.r [.bin 27 .eql .num (.t 17) (.c (.d (.i .i64 1))),
      .mv 26 (.t 27),
      .kill [27]])
    (.cond (.t 26)
      (.pre [.keep [4, 3]] (.r [.mv 28 (.t 3),
        .mv 29 (.t 4),
        .mv 30 (.t 3),
        .mv 31 (.t 4),
        .ia 32 5 (.t 30) (.t 31),
        .fa 33 (.t 32) 1,
        .ld 34 1 false (.t 33),
        .kill [4, 30, 31, 32, 33],
        .not 35 (.t 34),
        .ia 36 5 (.t 28) (.t 29),
        .fa 37 (.t 36) 1,
        .st 1 (.t 37) (.t 35),
        .keep [3]]))
      (.pre [.kill [26]] (.seq (.r [.bin 39 .eql .num (.t 17) (.c (.d (.i .i64 2))),
        .mv 38 (.t 39),
        .kill [39]])
      (.cond (.t 38)
        (.pre [.kill [17, 38]] (.r [.mv 40 (.t 3),
          .mv 41 (.t 4),
          .mv 42 (.t 0),
          .call 43 true [0] (.c (.clo sl1Below [])) [(.t 42), (.c (.d (.i .i64 2)))],
          .bin 44 .add .num (.c (.d (.i .i64 200))) (.t 43),
          .mk 45 .u8 1 (.t 44),
          .kill [0, 4, 42, 43, 44],
          .b2s 46 (.t 45),
          .ia 47 5 (.t 40) (.t 41),
          .fa 48 (.t 47) 2,
          .st 1 (.t 48) (.t 46),
          .keep [3],
          .drop [109]]))
        (.pre [.kill [38]] (.seq (.r [.bin 50 .eql .num (.t 17) (.c (.d (.i .i64 3))),
          .mv 49 (.t 50),
          .kill [50]])
        (.cond (.t 49)
          (.pre [.kill [17, 49]] (.r [.mv 51 (.t 3),
            .mv 52 (.t 4),
            .mv 53 (.t 0),
            .bs 54 (.int .i64) false 3 [.d (.i .i64 0)] [(0, (.c (.d (.i .i64 (-1))))), (1, (.c (.d (.i .i64 99999)))), (2, (.c (.d (.i .i64 100000))))],
            .frz 54,
            .call 55 true [0] (.c (.clo sl1Int [])) [(.t 53), (.t 54)],
            .ia 56 5 (.t 51) (.t 52),
            .kill [0, 4, 51, 52, 53, 54],
            .fa 57 (.t 56) 3,
            .st 1 (.t 57) (.t 55),
            .keep [3],
            .drop [118]]))
          (.pre [.kill [49]] (.seq (.r [.bin 59 .eql .num (.t 17) (.c (.d (.i .i64 4))),
            .mv 58 (.t 59),
            .kill [59]])
          (.cond (.t 58)
            (.pre [.kill [17, 58]] (.post (.r [.an [130, 133, 134, 69064] [0, 67] [] [] (.mv 60 (.t 3)),
              .an [130, 133, 134, 69064] [0, 67] [] [] (.mv 61 (.t 4)),
              .an [133, 69064] [0] [] [] (.mv 62 (.t 3)),
              .an [133, 69064] [0] [] [] (.mv 63 (.t 4)),
              .an [133, 69064] [0] [] [] (.ia 64 5 (.t 62) (.t 63)),
              .an [133, 69064] [0] [] [] (.fa 65 (.t 64) 4),
              .an [133, 69064] [0] [130] [67] (.ldm 66 (.t 65)),
              .an [130] [67] [] [] (.mv 67 (.t 0)),
              .an [130] [67] [69064] [0] (.call 68 true [0] (.c (.clo sl10OneProp [])) [(.t 67)]),
              .an [130] [67] [133] [] (.bs 69 TProp false 1 [.d (.s []), .d (.s []), .d (.s [])] [(0, (.t 68))]),
              .an [] [] [130, 134] [67] (.app 70 TProp false 48 (.t 66) (.t 69)),
              .ia 71 5 (.t 60) (.t 61),
              .fa 72 (.t 71) 4,
              .an [] [] [134] [67] (.st 1 (.t 72) (.t 70))]) [.keep [3], .drop [130, 133, 134]]))
            (.pre [.keep [17, 3]] (.seq (.r [.bin 74 .eql .num (.t 17) (.c (.d (.i .i64 5))),
              .mv 73 (.t 74),
              .kill [17, 74]])
            (.cond (.t 73)
              (.pre [.kill [73]] (.seq (.r [.mv 5 (.c (.d (.i .i64 0)))])
              (.blk 1 (.pre [.keep [5, 3]] (.loop sl10Any_l0)))))
              (.pre [.kill [73]] (.skip)))))))))))))))))))))
  (.seq (.r [.mv 88 (.t 3),
    .mv 2 (.t 88),
    .ren 67 66,
    .keep [2],
    .drop [67]])
  (.ret))))))⟩
def sl10Path_m : Fn := ⟨2, [.t 4], false,
  .seq (.r [.mv 4 (.c (.nil .str)),
    .opn 4 4 false,
    .kill [4],
    .drop [68]])
  (.seq (.seq (.r [.mv 6 (.t 1),
    .len 7 (.t 6),
    .bin 8 .gtr .num (.t 7) (.c (.d (.i .i64 0))),
    .mv 9 (.t 8),
    .gd 9 true (some 10) (.mv 10 (.t 0)),
    .gd 9 true (some 11) (.call 11 true [0] (.c (.clo sl1Once [])) [(.t 10), (.c (.d (.i .i64 3)))]),
    .gd 9 true (some 12) (.not 12 (.t 11)),
    .kill [6, 7, 8, 10, 11],
    .pick 13 (.t 9) (.t 12) (.c (.d (.b false))),
    .keep [13, 1, 0]])
  (.cond (.t 13)
    (.pre [.kill [13]] (.seq (.r [.bs 14 .str false 0 [.d (.s [])] [],
      .mv 15 (.t 1),
      .mv 16 (.t 0),
      .mv 17 (.t 1),
      .len 18 (.t 17),
      .call 19 true [0] (.c (.clo sl1Below [])) [(.t 16), (.t 18)],
      .ia 20 5 (.t 15) (.t 19),
      .kill [1, 15, 16, 17, 18, 19],
      .fa 21 (.t 20) 0,
      .ld 22 1 false (.t 21),
      .app 23 .str false 16 (.t 14) (.t 22),
      .mv 5 (.t 23),
      .ren 87 69,
      .keep [5, 0],
      .drop [78, 87]])
    (.seq (.seq (.r [.mv 24 (.t 0),
      .call 25 true [0] (.c (.clo sl1Once [])) [(.t 24), (.c (.d (.i .i64 3)))],
      .kill [24]])
    (.cond (.t 25)
      (.pre [.kill [25]] (.r [.mv 26 (.t 5),
        .mv 27 (.t 0),
        .call 28 true [0] (.c (.clo sl2Name [])) [(.t 27)],
        .bs 29 .str false 1 [.d (.s [])] [(0, (.t 28))],
        .app 30 .str false 16 (.t 26) (.t 29),
        .kill [0, 5, 26, 27, 28, 29],
        .mv 5 (.t 30),
        .ren 94 69,
        .keep [5],
        .drop [93, 94]]))
      (.pre [.keep [5]] (.skip))))
    (.seq (.r [.mv 31 (.t 5),
      .mv 4 (.t 31),
      .ren 69 68,
      .keep [4],
      .drop [69]])
    (.ret)))))
    (.pre [.keep [0]] (.skip))))
  (.seq (.r [.mv 32 (.t 0),
    .call 33 false [0] (.c (.clo sl2Draw [])) [(.t 32)],
    .mv 4 (.t 33),
    .ren 34064 68,
    .keep [4],
    .drop [34064]])
  (.ret)))⟩
/-- live: [3, 4]; objects: [67] -/
def sl12Any_l0 : C :=
  .seq (.seq (.r [.mv 29 (.t 4),
          .bin 30 .lss .num (.t 29) (.c (.d (.i .i64 5))),
          .kill [29]])
        (.cond (.t 30)
          (.pre [.kill [30]] (.skip))
          (.pre [.keep [3]] (.ex 1))))
        (.seq (.blk 2 (.r [.mv 33 (.t 3),
          .mv 34 (.t 4),
          .call 35 true [] (.c (.clo sNumText [])) [(.t 34)],
          .bin 36 .add .num (.c (.d (.s [110]))) (.t 35),
          .bd 37 [.d (.s []), .d (.s []), .d (.s [])] [(1, 1, (.t 36))],
          .bd 38 [.d (.b false), .d (.s []), .d (.s []), .d (.s [])] [(1, 3, (.t 37))],
          .kill [3, 34, 35, 36, 37],
          .bs 39 TSet false 1 [.d (.b false), .d (.s []), .d (.s []), .d (.s [])] [(0, (.t 38))],
          .app 40 TSet false 56 (.t 33) (.t 39),
          .mv 3 (.t 40),
          .ren 104 67,
          .keep [4, 3],
          .drop [103, 104]]))
        (.r [.mv 31 (.t 4),
          .bin 32 .add .num (.t 31) (.c (.d (.i .i64 1))),
          .mv 4 (.t 32),
          .kill [31, 32]]))
def sl12Any_m : Fn := ⟨1, [.t 2], false,
  .seq (.r [.mv 2 (.c (.nil TSet)),
    .opn 2 2 false,
    .kill [2],
    .drop [66]])
  (.seq (.r [.mv 5 (.t 0),
    .call 6 false [0] (.c (.clo sl12Sets [])) [(.t 5)],
    .mv 3 (.t 6),
    .ren 7064 67,
    .kill [5, 6],
    .drop [7064]])
  (.seq (.seq (.r [.mv 7 (.t 0),
    .call 8 true [0] (.c (.clo sl1Below [])) [(.t 7), (.c (.d (.i .i64 6)))],
    .kill [7]])
  (.blk 0 (.seq (.r [.bin 10 .eql .num (.t 8) (.c (.d (.i .i64 0))),
    .mv 9 (.t 10),
    .kill [10]])
  (.cond (.t 9)
    (.pre [.kill [8, 9]] (.r [.mv 11 (.t 3),
      .mv 12 (.t 0),
      .call 13 true [0] (.c (.clo sl1Once [])) [(.t 12), (.c (.d (.i .i64 2)))],
      .mv 14 (.t 0),
      .bs 15 .str false 2 [.d (.s [])] [(0, (.c (.d (.s [122])))), (1, (.c (.d (.s [1]))))],
      .frz 15,
      .call 16 true [0] (.c (.clo sl1Str [])) [(.t 14), (.t 15)],
      .mv 17 (.t 0),
      .bs 18 .str false 2 [.d (.s [])] [(0, (.c (.d (.s [97])))), (1, (.c (.d (.s [65]))))],
      .frz 18,
      .call 19 true [0] (.c (.clo sl1Str [])) [(.t 17), (.t 18)],
      .kill [3, 12, 14, 15, 17, 18],
      .mv 20 (.t 0),
      .bs 21 .str false 2 [.d (.s [])] [(0, (.c (.d (.s [120])))), (1, (.c (.d (.s [116, 119, 101, 110, 116, 121, 45, 111, 110, 101, 45, 98, 121, 116, 101, 115, 45, 116, 101, 120, 116]))))],
      .frz 21,
      .call 22 true [0] (.c (.clo sl1Str [])) [(.t 20), (.t 21)],
      .bd 23 [.d (.s []), .d (.s []), .d (.s [])] [(0, 1, (.t 16)), (1, 1, (.t 19)), (2, 1, (.t 22))],
      .kill [0, 16, 19, 20, 21, 22],
      .bd 24 [.d (.b false), .d (.s []), .d (.s []), .d (.s [])] [(0, 1, (.t 13)), (1, 3, (.t 23))],
      .bs 25 TSet false 1 [.d (.b false), .d (.s []), .d (.s []), .d (.s [])] [(0, (.t 24))],
      .app 26 TSet false 56 (.t 11) (.t 25),
      .kill [11, 13, 23, 24, 25],
      .mv 3 (.t 26),
      .ren 90 67,
      .keep [3],
      .drop [79, 82, 85, 89, 90]]))
    (.pre [.kill [0, 9]] (.seq (.r [.bin 28 .eql .num (.t 8) (.c (.d (.i .i64 1))),
      .mv 27 (.t 28),
      .kill [8, 28]])
    (.cond (.t 27)
      (.pre [.kill [27]] (.seq (.r [.mv 4 (.c (.d (.i .i64 0)))])
      (.blk 1 (.pre [.keep [4, 3]] (.loop sl12Any_l0)))))
      (.pre [.kill [27]] (.skip)))))))))
  (.seq (.r [.mv 41 (.t 3),
    .mv 2 (.t 41),
    .ren 67 66,
    .keep [2],
    .drop [67]])
  (.ret))))⟩
/-- live: [3, 6, 7, 8]; objects: [67] -/
def icopyTree_l0 : C :=
  .seq (.r [.bin 9 .lss .num (.t 8) (.t 7)])
    (.seq (.cond (.t 9)
      (.pre [.kill [9]] (.skip))
      (.pre [.keep [3]] (.ex 0)))
    (.seq (.blk 1 (.seq (.r [.ia 10 5 (.t 6) (.t 8),
      .ld 11 5 true (.t 10),
      .al 5 TRes true,
      .st 5 (.t 5) (.t 11),
      .kill [10, 11]])
    (.r [.mv 12 (.t 3),
      .ld 13 5 true (.t 5),
      .call 14 false [] (.c (.clo icopyRes [])) [(.t 13)],
      .bs 15 TRes false 1 [.nil .str, .d (.b false), .d (.s []), .d (.i .i64 0), .nil TProp] [(0, (.t 14))],
      .app 16 TRes false 80 (.t 12) (.t 15),
      .kill [3, 5, 12, 13, 14, 15],
      .mv 3 (.t 16),
      .ren 80 67,
      .keep [8, 7, 6, 3],
      .drop [69, 79, 80, 15064, 15068]])))
    (.r [.bin 17 .add .num (.t 8) (.c (.d (.i .i64 1))),
      .mv 8 (.t 17),
      .kill [17]])))
def icopyTree_m : Fn := ⟨1, [.t 2], false,
  .seq (.r [.mv 2 (.c (.nil TRes)),
    .opn 2 2 false,
    .kill [2],
    .drop [66]])
  (.seq (.r [.mv 3 (.c (.nil TRes)),
    .opn 3 3 false])
  (.seq (.seq (.r [.mv 6 (.t 0),
    .len 7 (.t 6),
    .mv 8 (.c (.d (.i .i64 0))),
    .kill [0]])
  (.blk 0 (.pre [.keep [8, 7, 6, 3]] (.loop icopyTree_l0))))
  (.seq (.r [.mv 18 (.t 3),
    .mv 2 (.t 18),
    .ren 67 66,
    .keep [2],
    .drop [67]])
  (.ret))))⟩
/-- live: [1, 7, 8, 9]; objects: [] -/
def iFindRes_l0 : C :=
  .seq (.r [.bin 10 .lss .num (.t 9) (.t 8)])
    (.seq (.cond (.t 10)
      (.pre [.kill [10]] (.skip))
      (.pre [.keep []] (.ex 0)))
    (.seq (.blk 1 (.seq (.r [.mv 11 (.t 9),
      .ia 12 5 (.t 7) (.t 9),
      .ld 13 5 true (.t 12),
      .al 6 TRes true,
      .mv 5 (.t 11),
      .st 5 (.t 6) (.t 13),
      .kill [11, 12, 13]])
    (.seq (.r [.fa 14 (.t 6) 0,
      .ld 15 1 false (.t 14),
      .mv 16 (.t 1),
      .call 17 true [] (.c (.clo iSamePath [])) [(.t 15), (.t 16)],
      .kill [6, 14, 15, 16],
      .drop [70]])
    (.cond (.t 17)
      (.pre [.keep [5]] (.seq (.r [.mv 18 (.t 5),
        .mv 4 (.t 18),
        .keep [4]])
      (.ret)))
      (.pre [.kill [5, 17]] (.skip))))))
    (.r [.bin 19 .add .num (.t 9) (.c (.d (.i .i64 1))),
      .mv 9 (.t 19),
      .kill [19]])))
def iFindRes_m : Fn := ⟨2, [.t 4], false,
  .seq (.r [.mv 4 (.c (.d (.i .i64 0))),
    .kill [4]])
  (.seq (.seq (.r [.mv 7 (.t 0),
    .len 8 (.t 7),
    .mv 9 (.c (.d (.i .i64 0))),
    .kill [0]])
  (.blk 0 (.pre [.keep [9, 8, 7, 1]] (.loop iFindRes_l0))))
  (.seq (.r [.mv 4 (.c (.d (.i .i64 (-1))))])
  (.ret)))⟩
/-- live: [6, 7, 14, 15, 16]; objects: [71, 75] -/
def iSetProps_l0 : C :=
  .seq (.r [.bin 17 .lss .num (.t 16) (.t 15)])
    (.seq (.cond (.t 17)
      (.pre [.kill [17]] (.skip))
      (.pre [.keep [7, 6]] (.ex 0)))
    (.seq (.blk 1 (.seq (.r [.ia 18 4 (.t 14) (.t 16),
      .ld 19 4 true (.t 18),
      .al 9 TSet false,
      .st 4 (.t 9) (.t 19),
      .kill [18, 19]])
    (.seq (.seq (.r [.fa 20 (.t 9) 1,
      .ld 21 3 true (.t 20),
      .call 22 true [] (.c (.clo ipropOk [])) [(.t 21)],
      .not 23 (.t 22),
      .kill [20, 21, 22]])
    (.cond (.t 23)
      (.pre [.keep [6], .drop [71, 73]] (.seq (.r [.mv 24 (.t 6),
        .mv 4 (.t 24),
        .ren 75 68,
        .mv 5 (.c (.d (.b false))),
        .kill [6, 24],
        .drop [75]])
      (.ret)))
      (.pre [.kill [23]] (.skip))))
    (.r [.mv 25 (.t 7),
      .ld 26 4 true (.t 9),
      .call 27 false [] (.c (.clo isetProp [])) [(.t 25), (.t 26)],
      .mv 7 (.t 27),
      .ren 28064 71,
      .kill [9, 25, 26, 27],
      .drop [73, 28064]]))))
    (.r [.bin 28 .add .num (.t 16) (.c (.d (.i .i64 1))),
      .mv 16 (.t 28),
      .kill [28]])))
def iSetProps_m : Fn := ⟨2, [.t 4, .t 5], false,
  .seq (.r [.mv 4 (.c (.nil TProp)),
    .opn 4 4 false,
    .mv 5 (.c (.d (.b false))),
    .kill [4, 5],
    .drop [68]])
  (.seq (.r [.mv 10 (.t 0),
    .app 11 TProp false 48 (.c (.nil TProp)) (.t 10),
    .mv 6 (.t 11),
    .kill [10, 11]])
  (.seq (.r [.mv 12 (.t 0),
    .app 13 TProp false 48 (.c (.nil TProp)) (.t 12),
    .mv 7 (.t 13),
    .ren 77 71,
    .kill [0, 12, 13],
    .drop [77]])
  (.seq (.seq (.r [.mv 14 (.t 1),
    .len 15 (.t 14),
    .mv 16 (.c (.d (.i .i64 0))),
    .kill [1]])
  (.blk 0 (.pre [.keep [16, 15, 14, 7, 6]] (.loop iSetProps_l0))))
  (.seq (.seq (.r [.mv 29 (.t 7),
    .call 30 true [] (.c (.clo iPropsOk [])) [(.t 29)],
    .not 31 (.t 30),
    .kill [29, 30]])
  (.cond (.t 31)
    (.pre [.keep [6], .drop [71]] (.seq (.r [.mv 32 (.t 6),
      .mv 4 (.t 32),
      .ren 75 68,
      .mv 5 (.c (.d (.b false))),
      .kill [6, 32],
      .drop [75]])
    (.ret)))
    (.pre [.keep [7], .drop [75]] (.skip))))
  (.seq (.r [.mv 33 (.t 7),
    .mv 4 (.t 33),
    .ren 71 68,
    .mv 5 (.c (.d (.b true))),
    .kill [7, 33],
    .drop [71]])
  (.ret))))))⟩
/-- live: [0, 3]; objects: [] -/
def sTreeOk_l0 : C :=
  .seq (.seq (.r [.mv 5 (.t 3),
      .mv 6 (.t 0),
      .len 7 (.t 6),
      .bin 8 .lss .num (.t 5) (.t 7),
      .kill [5, 6, 7]])
    (.cond (.t 8)
      (.pre [.kill [8]] (.skip))
      (.pre [.keep [0]] (.ex 0))))
    (.seq (.blk 1 (.seq (.r [.mv 11 (.t 0),
      .mv 12 (.t 3),
      .ia 13 5 (.t 11) (.t 12),
      .ld 14 5 true (.t 13),
      .al 4 TRes true,
      .st 5 (.t 4) (.t 14),
      .keep [4, 3, 0]])
    (.seq (.seq (.r [.fa 15 (.t 4) 0,
      .ld 16 1 false (.t 15),
      .len 17 (.t 16),
      .bin 18 .eql .num (.t 17) (.c (.d (.i .i64 0))),
      .mv 19 (.t 18),
      .gd 19 false (some 20) (.fa 20 (.t 4) 0),
      .gd 19 false (some 21) (.ld 21 1 false (.t 20)),
      .kill [15, 16, 17, 18, 20],
      .gd 19 false (some 22) (.call 22 true [] (.c (.clo sPathOk [])) [(.t 21)]),
      .gd 19 false (some 23) (.not 23 (.t 22)),
      .pick 24 (.t 19) (.c (.d (.b true))) (.t 23),
      .mv 25 (.t 24),
      .kill [19, 21, 22, 23, 24],
      .gd 25 false (some 26) (.fa 26 (.t 4) 2),
      .gd 25 false (some 27) (.ld 27 1 false (.t 26)),
      .gd 25 false (some 28) (.lns 28 (.t 27)),
      .gd 25 false (some 29) (.bin 29 .gtr .num (.t 28) (.c (.d (.i .i64 200)))),
      .pick 30 (.t 25) (.c (.d (.b true))) (.t 29),
      .kill [25, 26, 27, 28, 29],
      .mv 31 (.t 30),
      .gd 31 false (some 32) (.fa 32 (.t 4) 1),
      .gd 31 false (some 33) (.ld 33 1 false (.t 32)),
      .gd 31 false (some 34) (.mv 34 (.t 33)),
      .gd 34 true (some 35) (.fa 35 (.t 4) 2),
      .gd 34 true (some 36) (.ld 36 1 false (.t 35)),
      .gd 34 true (some 37) (.bin 37 .neq .num (.t 36) (.c (.d (.s [])))),
      .kill [30, 32, 33, 35, 36],
      .gd 31 false (some 38) (.pick 38 (.t 34) (.t 37) (.c (.d (.b false)))),
      .pick 39 (.t 31) (.c (.d (.b true))) (.t 38),
      .mv 40 (.t 39),
      .kill [31, 34, 37, 38, 39],
      .gd 40 false (some 41) (.fa 41 (.t 4) 3),
      .gd 40 false (some 42) (.ld 42 1 false (.t 41)),
      .gd 40 false (some 43) (.call 43 true [] (.c (.clo sl1In [])) [(.t 42), (.c (.d (.i .i64 0))), (.c (.d (.i .i64 99999)))]),
      .gd 40 false (some 44) (.not 44 (.t 43)),
      .pick 45 (.t 40) (.c (.d (.b true))) (.t 44),
      .kill [40, 41, 42, 43, 44],
      .mv 46 (.t 45),
      .gd 46 false (some 47) (.fa 47 (.t 4) 4),
      .gd 46 false (some 48) (.ld 48 1 false (.t 47)),
      .gd 46 false (some 49) (.call 49 true [] (.c (.clo sPropsOk [])) [(.t 48)]),
      .gd 46 false (some 50) (.not 50 (.t 49)),
      .pick 51 (.t 46) (.c (.d (.b true))) (.t 50),
      .keep [51, 4, 3, 0]])
    (.cond (.t 51)
      (.pre [.keep [], .drop [68]] (.seq (.r [.mv 2 (.c (.d (.b false)))])
      (.ret)))
      (.pre [.kill [51]] (.skip))))
    (.seq (.post (.r [.mv 52 (.t 3),
      .bin 53 .gtr .num (.t 52) (.c (.d (.i .i64 0))),
      .mv 54 (.t 53),
      .gd 54 true (some 55) (.mv 55 (.t 0)),
      .gd 54 true (some 56) (.mv 56 (.t 3)),
      .gd 54 true (some 57) (.bin 57 .sub .num (.t 56) (.c (.d (.i .i64 1)))),
      .gd 54 true (some 58) (.ia 58 5 (.t 55) (.t 57)),
      .gd 54 true (some 59) (.fa 59 (.t 58) 0),
      .gd 54 true (some 60) (.ld 60 1 false (.t 59)),
      .gd 54 true (some 61) (.fa 61 (.t 4) 0),
      .gd 54 true (some 62) (.ld 62 1 false (.t 61)),
      .gd 54 true (some 63) (.call 63 true [] (.c (.clo sLessPath [])) [(.t 60), (.t 62)]),
      .gd 54 true (some 64) (.not 64 (.t 63)),
      .pick 65 (.t 54) (.t 64) (.c (.d (.b false))),
      .mv 66 (.t 65),
      .gd 66 false (some 67) (.mv 67 (.t 0)),
      .gd 66 false (some 68) (.fa 68 (.t 4) 0),
      .gd 66 false (some 69) (.ld 69 1 false (.t 68)),
      .gd 66 false (some 70) (.call 70 true [] (.c (.clo sAbove [])) [(.t 69)]),
      .gd 66 false (some 71) (.call 71 true [] (.c (.clo sIsColl [])) [(.t 67), (.t 70)]),
      .gd 66 false (some 72) (.not 72 (.t 71)),
      .pick 73 (.t 66) (.c (.d (.b true))) (.t 72)]) [.keep [73, 3, 0], .drop [68]])
    (.cond (.t 73)
      (.pre [.keep []] (.seq (.r [.mv 2 (.c (.d (.b false)))])
      (.ret)))
      (.pre [.kill [73]] (.skip)))))))
    (.r [.mv 9 (.t 3),
      .bin 10 .add .num (.t 9) (.c (.d (.i .i64 1))),
      .mv 3 (.t 10),
      .kill [9, 10]]))
def sTreeOk_m : Fn := ⟨1, [.t 2], false,
  .seq (.r [.mv 2 (.c (.d (.b false))),
    .kill [2]])
  (.seq (.seq (.r [.mv 3 (.c (.d (.i .i64 0)))])
  (.blk 0 (.pre [.keep [3, 0]] (.loop sTreeOk_l0))))
  (.seq (.r [.mv 74 (.t 0),
    .len 75 (.t 74),
    .bin 76 .leq .num (.t 75) (.c (.d (.i .i64 12))),
    .mv 2 (.t 76),
    .keep [2]])
  (.ret)))⟩
/-- live: [0, 3, 4]; objects: [67] -/
def sl10CopyAll_l0 : C :=
  .seq (.seq (.r [.mv 6 (.t 4),
      .mv 7 (.t 0),
      .len 8 (.t 7),
      .bin 9 .lss .num (.t 6) (.t 8),
      .kill [6, 7, 8]])
    (.cond (.t 9)
      (.pre [.kill [9]] (.skip))
      (.pre [.keep [3]] (.ex 0))))
    (.seq (.blk 1 (.r [.mv 12 (.t 3),
      .mv 13 (.t 0),
      .mv 14 (.t 4),
      .ia 15 5 (.t 13) (.t 14),
      .ld 16 5 true (.t 15),
      .call 17 false [] (.c (.clo sl10Copy [])) [(.t 16)],
      .kill [3, 13, 14, 15, 16],
      .bs 18 TRes false 1 [.nil .str, .d (.b false), .d (.s []), .d (.i .i64 0), .nil TProp] [(0, (.t 17))],
      .app 19 TRes false 80 (.t 12) (.t 18),
      .mv 3 (.t 19),
      .ren 83 67,
      .keep [4, 3, 0],
      .drop [82, 83, 18064, 18068]]))
    (.r [.mv 10 (.t 4),
      .bin 11 .add .num (.t 10) (.c (.d (.i .i64 1))),
      .mv 4 (.t 11),
      .kill [10, 11]]))
def sl10CopyAll_m : Fn := ⟨1, [.t 2], false,
  .seq (.r [.mv 2 (.c (.nil TRes)),
    .opn 2 2 false,
    .kill [2],
    .drop [66]])
  (.seq (.r [.bs 5 TRes false 0 [.nil .str, .d (.b false), .d (.s []), .d (.i .i64 0), .nil TProp] [],
    .mv 3 (.t 5),
    .ren 69 67,
    .kill [5],
    .drop [69]])
  (.seq (.seq (.r [.mv 4 (.c (.d (.i .i64 0)))])
  (.blk 0 (.pre [.keep [4, 3, 0]] (.loop sl10CopyAll_l0))))
  (.seq (.r [.mv 20 (.t 3),
    .mv 2 (.t 20),
    .ren 67 66,
    .keep [2],
    .drop [67]])
  (.ret))))⟩
/-- live: [0, 1, 5]; objects: [] -/
def sFindRes_l0 : C :=
  .seq (.seq (.r [.mv 6 (.t 5),
      .mv 7 (.t 0),
      .len 8 (.t 7),
      .bin 9 .lss .num (.t 6) (.t 8),
      .kill [6, 7, 8]])
    (.cond (.t 9)
      (.pre [.kill [9]] (.skip))
      (.pre [.keep []] (.ex 0))))
    (.seq (.blk 1 (.seq (.r [.mv 12 (.t 0),
      .mv 13 (.t 5),
      .ia 14 5 (.t 12) (.t 13),
      .fa 15 (.t 14) 0,
      .ld 16 1 false (.t 15),
      .mv 17 (.t 1),
      .call 18 true [] (.c (.clo sSamePath [])) [(.t 16), (.t 17)],
      .keep [18, 5, 1, 0]])
    (.cond (.t 18)
      (.pre [.keep [5]] (.seq (.r [.mv 19 (.t 5),
        .mv 4 (.t 19),
        .keep [4]])
      (.ret)))
      (.pre [.kill [18]] (.skip)))))
    (.r [.mv 10 (.t 5),
      .bin 11 .add .num (.t 10) (.c (.d (.i .i64 1))),
      .mv 5 (.t 11),
      .kill [10, 11]]))
def sFindRes_m : Fn := ⟨2, [.t 4], false,
  .seq (.r [.mv 4 (.c (.d (.i .i64 0))),
    .kill [4]])
  (.seq (.seq (.r [.mv 5 (.c (.d (.i .i64 0)))])
  (.blk 0 (.pre [.keep [5, 1, 0]] (.loop sFindRes_l0))))
  (.seq (.r [.mv 4 (.c (.d (.i .i64 (-1))))])
  (.ret)))⟩
/-- live: [0, 1, 6, 7]; objects: [70] -/
def sSetProps_l0 : C :=
  .seq (.seq (.r [.mv 11 (.t 7),
      .mv 12 (.t 1),
      .len 13 (.t 12),
      .bin 14 .lss .num (.t 11) (.t 13),
      .kill [11, 12, 13]])
    (.cond (.t 14)
      (.pre [.kill [14]] (.skip))
      (.pre [.keep [6, 0]] (.ex 0))))
    (.seq (.blk 1 (.seq (.seq (.r [.mv 17 (.t 1),
      .mv 18 (.t 7),
      .ia 19 4 (.t 17) (.t 18),
      .fa 20 (.t 19) 1,
      .ld 21 3 true (.t 20),
      .call 22 true [] (.c (.clo sl10Prop [])) [(.t 21)],
      .kill [17, 18, 19, 20, 21],
      .not 23 (.t 22),
      .keep [23, 7, 6, 1, 0]])
    (.cond (.t 23)
      (.pre [.keep [0], .drop [70]] (.seq (.r [.bs 24 TProp false 0 [.d (.s []), .d (.s []), .d (.s [])] [],
        .mv 25 (.t 0),
        .app 26 TProp false 48 (.t 24) (.t 25),
        .mv 4 (.t 26),
        .ren 90 68,
        .mv 5 (.c (.d (.b false))),
        .keep [5, 4],
        .drop [88, 90]])
      (.ret)))
      (.pre [.kill [23]] (.skip))))
    (.r [.mv 27 (.t 6),
      .mv 28 (.t 1),
      .mv 29 (.t 7),
      .ia 30 4 (.t 28) (.t 29),
      .ld 31 4 true (.t 30),
      .call 32 false [] (.c (.clo sl12One [])) [(.t 27), (.t 31)],
      .kill [6, 27, 28, 29, 30, 31],
      .mv 6 (.t 32),
      .ren 33064 70,
      .keep [7, 6, 1, 0],
      .drop [33064]])))
    (.r [.mv 15 (.t 7),
      .bin 16 .add .num (.t 15) (.c (.d (.i .i64 1))),
      .mv 7 (.t 16),
      .kill [15, 16]]))
def sSetProps_m : Fn := ⟨2, [.t 4, .t 5], false,
  .seq (.r [.mv 4 (.c (.nil TProp)),
    .opn 4 4 false,
    .mv 5 (.c (.d (.b false))),
    .kill [4, 5],
    .drop [68]])
  (.seq (.r [.bs 8 TProp false 0 [.d (.s []), .d (.s []), .d (.s [])] [],
    .mv 9 (.t 0),
    .app 10 TProp false 48 (.t 8) (.t 9),
    .mv 6 (.t 10),
    .ren 74 70,
    .kill [8, 9, 10],
    .drop [72, 74]])
  (.seq (.seq (.r [.mv 7 (.c (.d (.i .i64 0)))])
  (.blk 0 (.pre [.keep [7, 6, 1, 0]] (.loop sSetProps_l0))))
  (.seq (.seq (.r [.mv 33 (.t 6),
    .call 34 true [] (.c (.clo sPropsOk [])) [(.t 33)],
    .not 35 (.t 34),
    .kill [33, 34]])
  (.cond (.t 35)
    (.pre [.keep [0], .drop [70]] (.seq (.r [.bs 36 TProp false 0 [.d (.s []), .d (.s []), .d (.s [])] [],
      .mv 37 (.t 0),
      .app 38 TProp false 48 (.t 36) (.t 37),
      .mv 4 (.t 38),
      .ren 102 68,
      .mv 5 (.c (.d (.b false))),
      .keep [5, 4],
      .drop [100, 102]])
    (.ret)))
    (.pre [.keep [6]] (.skip))))
  (.seq (.r [.mv 39 (.t 6),
    .mv 4 (.t 39),
    .ren 70 68,
    .mv 5 (.c (.d (.b true))),
    .kill [6, 39],
    .drop [70]])
  (.ret)))))⟩
/-- live: [0, 1, 5]; objects: [] -/
def wsameTexts_l0 : C :=
  .seq (.seq (.r [.mv 11 (.t 5),
      .mv 12 (.t 0),
      .len 13 (.t 12),
      .bin 14 .lss .num (.t 11) (.t 13),
      .kill [11, 12, 13]])
    (.cond (.t 14)
      (.pre [.kill [14]] (.skip))
      (.pre [.keep []] (.ex 0))))
    (.seq (.blk 1 (.seq (.post (.r [.mv 17 (.t 0),
      .mv 18 (.t 5),
      .ia 19 1 (.t 17) (.t 18),
      .ld 20 1 false (.t 19),
      .mv 21 (.t 1),
      .mv 22 (.t 5),
      .ia 23 1 (.t 21) (.t 22),
      .ld 24 1 false (.t 23),
      .bin 25 .neq .num (.t 20) (.t 24)]) [.keep [25, 5, 1, 0]])
    (.cond (.t 25)
      (.pre [.keep []] (.seq (.r [.mv 4 (.c (.d (.b false)))])
      (.ret)))
      (.pre [.kill [25]] (.skip)))))
    (.r [.mv 15 (.t 5),
      .bin 16 .add .num (.t 15) (.c (.d (.i .i64 1))),
      .mv 5 (.t 16),
      .kill [15, 16]]))
def wsameTexts_m : Fn := ⟨2, [.t 4], false,
  .seq (.r [.mv 4 (.c (.d (.b false))),
    .kill [4]])
  (.seq (.seq (.r [.mv 6 (.t 0),
    .len 7 (.t 6),
    .mv 8 (.t 1),
    .len 9 (.t 8),
    .bin 10 .neq .num (.t 7) (.t 9),
    .keep [10, 1, 0]])
  (.cond (.t 10)
    (.pre [.keep []] (.seq (.r [.mv 4 (.c (.d (.b false)))])
    (.ret)))
    (.pre [.kill [10]] (.skip))))
  (.seq (.seq (.r [.mv 5 (.c (.d (.i .i64 0)))])
  (.blk 0 (.pre [.keep [5, 1, 0]] (.loop wsameTexts_l0))))
  (.seq (.r [.mv 4 (.c (.d (.b true)))])
  (.ret))))⟩
/-- live: [0, 1, 5]; objects: [] -/
def wsameProps_l0 : C :=
  .seq (.seq (.r [.mv 11 (.t 5),
      .mv 12 (.t 0),
      .len 13 (.t 12),
      .bin 14 .lss .num (.t 11) (.t 13),
      .kill [11, 12, 13]])
    (.cond (.t 14)
      (.pre [.kill [14]] (.skip))
      (.pre [.keep []] (.ex 0))))
    (.seq (.blk 1 (.seq (.post (.r [.mv 17 (.t 0),
      .mv 18 (.t 5),
      .ia 19 3 (.t 17) (.t 18),
      .ld 20 3 true (.t 19),
      .mv 21 (.t 1),
      .mv 22 (.t 5),
      .ia 23 3 (.t 21) (.t 22),
      .ld 24 3 true (.t 23),
      .bin 25 .neq (.st [2, 2, 2]) (.t 20) (.t 24)]) [.keep [25, 5, 1, 0]])
    (.cond (.t 25)
      (.pre [.keep []] (.seq (.r [.mv 4 (.c (.d (.b false)))])
      (.ret)))
      (.pre [.kill [25]] (.skip)))))
    (.r [.mv 15 (.t 5),
      .bin 16 .add .num (.t 15) (.c (.d (.i .i64 1))),
      .mv 5 (.t 16),
      .kill [15, 16]]))
def wsameProps_m : Fn := ⟨2, [.t 4], false,
  .seq (.r [.mv 4 (.c (.d (.b false))),
    .kill [4]])
  (.seq (.seq (.r [.mv 6 (.t 0),
    .len 7 (.t 6),
    .mv 8 (.t 1),
    .len 9 (.t 8),
    .bin 10 .neq .num (.t 7) (.t 9),
    .keep [10, 1, 0]])
  (.cond (.t 10)
    (.pre [.keep []] (.seq (.r [.mv 4 (.c (.d (.b false)))])
    (.ret)))
    (.pre [.kill [10]] (.skip))))
  (.seq (.seq (.r [.mv 5 (.c (.d (.i .i64 0)))])
  (.blk 0 (.pre [.keep [5, 1, 0]] (.loop wsameProps_l0))))
  (.seq (.r [.mv 4 (.c (.d (.b true)))])
  (.ret))))⟩
def iresOk_m : Fn := ⟨1, [.t 2], false,
  .seq (.r [.bx 1 TRes true (.t 0),
    .mv 2 (.c (.d (.b false))),
    .keep [1]])
  (.seq (.r [.fa 3 (.t 1) 0,
    .ld 4 1 false (.t 3),
    .len 5 (.t 4),
    .bin 6 .gtr .num (.t 5) (.c (.d (.i .i64 0))),
    .mv 7 (.t 6),
    .gd 7 true (some 8) (.fa 8 (.t 1) 0),
    .gd 7 true (some 9) (.ld 9 1 false (.t 8)),
    .kill [3, 4, 5, 6, 8],
    .gd 7 true (some 10) (.call 10 true [] (.c (.clo iPathOk [])) [(.t 9)]),
    .pick 11 (.t 7) (.t 10) (.c (.d (.b false))),
    .mv 12 (.t 11),
    .gd 12 true (some 13) (.fa 13 (.t 1) 1),
    .gd 12 true (some 14) (.ld 14 1 false (.t 13)),
    .kill [7, 9, 10, 11, 13],
    .gd 12 true (some 15) (.not 15 (.t 14)),
    .gd 12 true (some 16) (.mv 16 (.t 15)),
    .gd 16 false (some 17) (.fa 17 (.t 1) 2),
    .gd 16 false (some 18) (.ld 18 1 false (.t 17)),
    .gd 16 false (some 19) (.bin 19 .eql .num (.t 18) (.c (.d (.s [])))),
    .gd 12 true (some 20) (.pick 20 (.t 16) (.c (.d (.b true))) (.t 19)),
    .kill [14, 15, 16, 17, 18, 19],
    .pick 21 (.t 12) (.t 20) (.c (.d (.b false))),
    .mv 22 (.t 21),
    .gd 22 true (some 23) (.fa 23 (.t 1) 2),
    .gd 22 true (some 24) (.ld 24 1 false (.t 23)),
    .gd 22 true (some 25) (.lns 25 (.t 24)),
    .kill [12, 20, 21, 23, 24],
    .gd 22 true (some 26) (.bin 26 .leq .num (.t 25) (.c (.d (.i .i64 200)))),
    .pick 27 (.t 22) (.t 26) (.c (.d (.b false))),
    .mv 28 (.t 27),
    .gd 28 true (some 29) (.fa 29 (.t 1) 3),
    .gd 28 true (some 30) (.ld 30 1 false (.t 29)),
    .kill [22, 25, 26, 27, 29],
    .gd 28 true (some 31) (.call 31 true [] (.c (.clo iin [])) [(.t 30), (.c (.d (.i .i64 0))), (.c (.d (.i .i64 99999)))]),
    .pick 32 (.t 28) (.t 31) (.c (.d (.b false))),
    .mv 33 (.t 32),
    .gd 33 true (some 34) (.fa 34 (.t 1) 4),
    .kill [1, 28, 30, 31, 32],
    .gd 33 true (some 35) (.ld 35 1 false (.t 34)),
    .gd 33 true (some 36) (.call 36 true [] (.c (.clo iPropsOk [])) [(.t 35)]),
    .pick 37 (.t 33) (.t 36) (.c (.d (.b false))),
    .mv 2 (.t 37),
    .keep [2],
    .drop [65]])
  (.ret))⟩
/-- live: [0, 1, 5]; objects: [] -/
def iLessPath_l0 : C :=
  .seq (.seq (.r [.mv 6 (.t 5),
      .mv 7 (.t 0),
      .len 8 (.t 7),
      .bin 9 .lss .num (.t 6) (.t 8),
      .mv 10 (.t 9),
      .gd 10 true (some 11) (.mv 11 (.t 5)),
      .gd 10 true (some 12) (.mv 12 (.t 1)),
      .gd 10 true (some 13) (.len 13 (.t 12)),
      .kill [6, 7, 8, 9, 12],
      .gd 10 true (some 14) (.bin 14 .lss .num (.t 11) (.t 13)),
      .pick 15 (.t 10) (.t 14) (.c (.d (.b false))),
      .keep [15, 5, 1, 0]])
    (.cond (.t 15)
      (.pre [.kill [15]] (.skip))
      (.pre [.kill [5, 15]] (.ex 0))))
    (.seq (.blk 1 (.seq (.post (.r [.mv 18 (.t 0),
      .mv 19 (.t 5),
      .ia 20 1 (.t 18) (.t 19),
      .ld 21 1 false (.t 20),
      .mv 22 (.t 1),
      .mv 23 (.t 5),
      .ia 24 1 (.t 22) (.t 23),
      .ld 25 1 false (.t 24),
      .bin 26 .neq .num (.t 21) (.t 25)]) [.keep [26, 5, 1, 0]])
    (.cond (.t 26)
      (.pre [.kill [26]] (.seq (.post (.r [.mv 27 (.t 0),
        .mv 28 (.t 5),
        .ia 29 1 (.t 27) (.t 28),
        .ld 30 1 false (.t 29),
        .mv 31 (.t 1),
        .mv 32 (.t 5),
        .ia 33 1 (.t 31) (.t 32),
        .ld 34 1 false (.t 33),
        .bin 35 .lss .num (.t 30) (.t 34),
        .mv 4 (.t 35)]) [.keep [4]])
      (.ret)))
      (.pre [.kill [26]] (.skip)))))
    (.r [.mv 16 (.t 5),
      .bin 17 .add .num (.t 16) (.c (.d (.i .i64 1))),
      .mv 5 (.t 17),
      .kill [16, 17]]))
def iLessPath_m : Fn := ⟨2, [.t 4], false,
  .seq (.r [.mv 4 (.c (.d (.b false))),
    .kill [4]])
  (.seq (.seq (.r [.mv 5 (.c (.d (.i .i64 0)))])
  (.blk 0 (.pre [.keep [5, 1, 0]] (.loop iLessPath_l0))))
  (.seq (.r [.mv 36 (.t 0),
    .len 37 (.t 36),
    .mv 38 (.t 1),
    .len 39 (.t 38),
    .bin 40 .lss .num (.t 37) (.t 39),
    .kill [0, 1, 36, 37, 38, 39],
    .mv 4 (.t 40),
    .keep [4]])
  (.ret)))⟩
def iIsColl_m : Fn := ⟨2, [.t 4], false,
  .seq (.r [.mv 4 (.c (.d (.b false))),
    .kill [4]])
  (.seq (.seq (.r [.mv 6 (.t 1),
    .len 7 (.t 6),
    .bin 8 .eql .num (.t 7) (.c (.d (.i .i64 0))),
    .kill [6, 7]])
  (.cond (.t 8)
    (.pre [.keep []] (.seq (.r [.mv 4 (.c (.d (.b true)))])
    (.ret)))
    (.pre [.kill [8]] (.skip))))
  (.seq (.r [.mv 9 (.t 0),
    .mv 10 (.t 1),
    .call 11 true [] (.c (.clo iFindRes [])) [(.t 9), (.t 10)],
    .mv 5 (.t 11),
    .keep [5, 0]])
  (.seq (.r [.mv 12 (.t 5),
    .bin 13 .geq .num (.t 12) (.c (.d (.i .i64 0))),
    .mv 14 (.t 13),
    .gd 14 true (some 15) (.mv 15 (.t 0)),
    .gd 14 true (some 16) (.mv 16 (.t 5)),
    .gd 14 true (some 17) (.ia 17 5 (.t 15) (.t 16)),
    .kill [0, 5, 12, 13, 15, 16],
    .gd 14 true (some 18) (.fa 18 (.t 17) 1),
    .gd 14 true (some 19) (.ld 19 1 false (.t 18)),
    .pick 20 (.t 14) (.t 19) (.c (.d (.b false))),
    .mv 4 (.t 20),
    .keep [4]])
  (.ret))))⟩
def iAbove_m : Fn := ⟨1, [.t 2], false,
  .seq (.r [.mv 2 (.c (.nil .str)),
    .opn 2 2 false,
    .kill [2],
    .drop [66]])
  (.seq (.seq (.r [.mv 3 (.t 0),
    .len 4 (.t 3),
    .bin 5 .eql .num (.t 4) (.c (.d (.i .i64 0))),
    .kill [3, 4]])
  (.cond (.t 5)
    (.pre [.keep []] (.seq (.r [.mv 2 (.c (.nil .str)),
      .opn 2 2 false])
    (.ret)))
    (.pre [.kill [5]] (.skip))))
  (.seq (.r [.mv 6 (.t 0),
    .mv 7 (.t 0),
    .len 8 (.t 7),
    .bin 9 .sub .num (.t 8) (.c (.d (.i .i64 1))),
    .slc 10 1 (.t 6) none (some (.t 9)),
    .kill [0, 6, 7, 8, 9],
    .call 11 false [] (.c (.clo icopyPath [])) [(.t 10)],
    .mv 2 (.t 11),
    .ren 12064 66,
    .keep [2],
    .drop [12064]])
  (.ret)))⟩
/-- live: [0, 3, 4]; objects: [0, 67] -/
def sl10Draw_l0 : C :=
  .seq (.seq (.r [.mv 9 (.t 4),
      .bin 10 .gtr .num (.t 9) (.c (.d (.i .i64 0))),
      .kill [9]])
    (.cond (.t 10)
      (.pre [.kill [10]] (.skip))
      (.pre [.keep [3]] (.ex 0))))
    (.seq (.blk 1 (.seq (.r [.mv 13 (.t 0),
      .mv 14 (.t 3),
      .call 15 true [0, 67] (.c (.clo sl10Path [])) [(.t 13), (.t 14)],
      .mv 5 (.t 15),
      .kill [13, 14, 15]])
    (.seq (.seq (.r [.mv 16 (.t 0),
      .call 17 true [0] (.c (.clo sl1Once [])) [(.t 16), (.c (.d (.i .i64 2)))],
      .kill [16]])
    (.cond (.t 17)
      (.pre [.kill [17]] (.r [.mv 19 (.t 3),
        .mv 20 (.t 5),
        .mv 21 (.t 0),
        .call 22 true [0] (.c (.clo sl1Below [])) [(.t 21), (.c (.d (.i .i64 9)))],
        .call 23 false [] (.c (.clo sMakeColl [])) [(.t 19), (.t 20), (.t 22)],
        .kill [3, 5, 19, 20, 21, 22],
        .mv 18 (.t 23),
        .ext 24 (.t 18) 0,
        .ext 25 (.t 18) 1,
        .mv 3 (.t 24),
        .ren 24064 67,
        .keep [4, 3, 0],
        .drop [24064]]))
      (.pre [.kill [17]] (.r [.mv 27 (.t 3),
        .mv 28 (.t 5),
        .mv 29 (.t 0),
        .bs 30 .str false 3 [.d (.s [])] [(0, (.c (.d (.s [])))), (1, (.c (.d (.s [120])))), (2, (.c (.d (.s [104, 101, 108, 108, 111]))))],
        .frz 30,
        .call 31 true [0] (.c (.clo sl1Str [])) [(.t 29), (.t 30)],
        .mv 32 (.t 0),
        .call 33 true [0] (.c (.clo sl1Below [])) [(.t 32), (.c (.d (.i .i64 9)))],
        .kill [3, 5, 29, 30, 32],
        .call 34 false [] (.c (.clo sPutFile [])) [(.t 27), (.t 28), (.t 31), (.t 33)],
        .mv 26 (.t 34),
        .kill [27, 28, 31, 33, 34],
        .ext 35 (.t 26) 0,
        .ext 36 (.t 26) 1,
        .mv 3 (.t 35),
        .ren 35064 67,
        .keep [4, 3, 0],
        .drop [94, 35064]]))))
    (.seq (.r [.mv 37 (.t 3),
      .len 38 (.t 37),
      .bin 39 .gtr .num (.t 38) (.c (.d (.i .i64 0))),
      .mv 40 (.t 39),
      .gd 40 true (some 41) (.mv 41 (.t 0)),
      .gd 40 true (some 42) (.call 42 true [0] (.c (.clo sl1Once [])) [(.t 41), (.c (.d (.i .i64 3)))]),
      .pick 43 (.t 40) (.t 42) (.c (.d (.b false))),
      .keep [43, 4, 3, 0]])
    (.cond (.t 43)
      (.pre [.kill [43]] (.r [.mv 44 (.t 3),
        .mv 45 (.t 0),
        .mv 46 (.t 3),
        .len 47 (.t 46),
        .call 48 true [0] (.c (.clo sl1Below [])) [(.t 45), (.t 47)],
        .mv 49 (.t 0),
        .call 50 false [0] (.c (.clo sl10Props [])) [(.t 49)],
        .ia 51 5 (.t 44) (.t 48),
        .kill [44, 45, 46, 47, 48, 49],
        .fa 52 (.t 51) 4,
        .st 1 (.t 52) (.t 50),
        .keep [4, 3, 0],
        .drop [51064]]))
      (.pre [.kill [43]] (.skip)))))))
    (.r [.mv 11 (.t 4),
      .bin 12 .sub .num (.t 11) (.c (.d (.i .i64 1))),
      .mv 4 (.t 12),
      .kill [11, 12]]))
def sl10Draw_m : Fn := ⟨1, [.t 2], false,
  .seq (.r [.mv 2 (.c (.nil TRes)),
    .opn 2 2 false,
    .kill [2],
    .drop [66]])
  (.seq (.r [.bs 6 TRes false 0 [.nil .str, .d (.b false), .d (.s []), .d (.i .i64 0), .nil TProp] [],
    .mv 3 (.t 6),
    .ren 70 67,
    .kill [6],
    .drop [70]])
  (.seq (.seq (.r [.mv 7 (.t 0),
    .call 8 true [0] (.c (.clo sl1Below [])) [(.t 7), (.c (.d (.i .i64 10)))],
    .mv 4 (.t 8),
    .kill [7, 8]])
  (.blk 0 (.pre [.keep [4, 3, 0]] (.loop sl10Draw_l0))))
  (.seq (.r [.mv 53 (.t 3),
    .mv 2 (.t 53),
    .ren 67 66,
    .keep [2],
    .drop [67]])
  (.ret))))⟩
def sl1Below_m : Fn := ⟨2, [.t 4], false,
  .seq (.r [.mv 4 (.c (.d (.i .i64 0))),
    .kill [4]])
  (.seq (.seq (.r [.mv 8 (.t 1),
    .bin 9 .leq .num (.t 8) (.c (.d (.i .i64 0))),
    .kill [8]])
  (.cond (.t 9)
    (.pre [.keep []] (.seq (.r [.mv 4 (.c (.d (.i .i64 0)))])
    (.ret)))
    (.pre [.kill [9]] (.skip))))
  (.seq (.seq (.r [.mv 10 (.t 1),
    .bin 11 .leq .num (.t 10) (.c (.d (.i .i64 256))),
    .kill [10]])
  (.cond (.t 11)
    (.pre [.kill [11]] (.seq (.r [.mv 12 (.t 0),
      .call 13 true [0] (.c (.clo sl1Byte [])) [(.t 12)],
      .mv 14 (.t 1),
      .bin 15 .rem .num (.t 13) (.t 14),
      .kill [0, 1, 12, 13, 14],
      .mv 4 (.t 15),
      .keep [4]])
    (.ret)))
    (.pre [.kill [11]] (.skip))))
  (.seq (.r [.mv 16 (.t 0),
    .call 17 true [0] (.c (.clo sl1Byte [])) [(.t 16)],
    .mv 5 (.t 17),
    .kill [16, 17]])
  (.seq (.r [.mv 18 (.t 0),
    .call 19 true [0] (.c (.clo sl1Byte [])) [(.t 18)],
    .mv 6 (.t 19),
    .kill [18, 19]])
  (.seq (.r [.mv 20 (.t 0),
    .call 21 true [0] (.c (.clo sl1Byte [])) [(.t 20)],
    .mv 7 (.t 21),
    .kill [0, 20, 21]])
  (.seq (.r [.mv 22 (.t 5),
    .bin 23 .mul .num (.t 22) (.c (.d (.i .i64 65536))),
    .mv 24 (.t 6),
    .bin 25 .mul .num (.t 24) (.c (.d (.i .i64 256))),
    .bin 26 .add .num (.t 23) (.t 25),
    .kill [5, 6, 22, 23, 24, 25],
    .mv 27 (.t 7),
    .bin 28 .add .num (.t 26) (.t 27),
    .mv 29 (.t 1),
    .bin 30 .rem .num (.t 28) (.t 29),
    .kill [1, 7, 26, 27, 28, 29],
    .mv 4 (.t 30),
    .keep [4]])
  (.ret)))))))⟩
/-- live: [0, 3]; objects: [0, 67] -/
def sl2Any_l0 : C :=
  .seq (.seq (.r [.mv 18 (.t 3),
          .len 19 (.t 18),
          .mv 20 (.t 0),
          .call 21 true [0] (.c (.clo sl1Below [])) [(.t 20), (.c (.d (.i .i64 2)))],
          .bin 22 .add .num (.c (.d (.i .i64 4))) (.t 21),
          .bin 23 .lss .num (.t 19) (.t 22),
          .keep [23, 3, 0]])
        (.cond (.t 23)
          (.pre [.kill [23]] (.skip))
          (.pre [.keep [3]] (.ex 1))))
        (.blk 2 (.r [.mv 24 (.t 3),
          .bs 25 .str false 1 [.d (.s [])] [(0, (.c (.d (.s [113]))))],
          .app 26 .str false 16 (.t 24) (.t 25),
          .mv 3 (.t 26),
          .ren 90 67,
          .keep [3, 0],
          .drop [89, 90]]))
def sl2Any_m : Fn := ⟨1, [.t 2], false,
  .seq (.r [.mv 2 (.c (.nil .str)),
    .opn 2 2 false,
    .kill [2],
    .drop [66]])
  (.seq (.r [.mv 4 (.t 0),
    .call 5 false [0] (.c (.clo sl2Draw [])) [(.t 4)],
    .mv 3 (.t 5),
    .ren 6064 67,
    .kill [4, 5],
    .drop [6064]])
  (.seq (.seq (.r [.mv 6 (.t 0),
    .call 7 true [0] (.c (.clo sl1Below [])) [(.t 6), (.c (.d (.i .i64 8)))],
    .kill [6]])
  (.blk 0 (.seq (.r [.bin 9 .eql .num (.t 7) (.c (.d (.i .i64 0))),
    .mv 8 (.t 9),
    .kill [9]])
  (.cond (.t 8)
    (.pre [.kill [7, 8]] (.r [.mv 10 (.t 3),
      .mv 11 (.t 0),
      .bs 12 .str false 7 [.d (.s [])] [(0, (.c (.d (.s [])))), (1, (.c (.d (.s [46])))), (2, (.c (.d (.s [46, 46])))), (3, (.c (.d (.s [97, 47, 98])))), (4, (.c (.d (.s [110, 105, 110, 101, 98, 121, 116, 101, 115])))), (5, (.c (.d (.s [31])))), (6, (.c (.d (.s [101, 105, 103, 104, 116, 98, 121, 56]))))],
      .frz 12,
      .call 13 true [0] (.c (.clo sl1Str [])) [(.t 11), (.t 12)],
      .bs 14 .str false 1 [.d (.s [])] [(0, (.t 13))],
      .kill [0, 3, 11, 12, 13],
      .app 15 .str false 16 (.t 10) (.t 14),
      .mv 3 (.t 15),
      .ren 79 67,
      .keep [3],
      .drop [76, 78, 79]]))
    (.pre [.kill [8]] (.seq (.r [.bin 17 .eql .num (.t 7) (.c (.d (.i .i64 1))),
      .mv 16 (.t 17),
      .kill [7, 17]])
    (.cond (.t 16)
      (.pre [.kill [16]] (.blk 1 (.pre [.keep [3, 0]] (.loop sl2Any_l0))))
      (.pre [.keep [3]] (.skip)))))))))
  (.seq (.r [.mv 27 (.t 3),
    .mv 2 (.t 27),
    .ren 67 66,
    .keep [2],
    .drop [67]])
  (.ret))))⟩
def sl1Int_m : Fn := ⟨2, [.t 4], false,
  .seq (.r [.mv 4 (.c (.d (.i .i64 0))),
    .kill [4]])
  (.seq (.r [.mv 5 (.t 1),
    .mv 6 (.t 0),
    .mv 7 (.t 1),
    .len 8 (.t 7),
    .call 9 true [0] (.c (.clo sl1Below [])) [(.t 6), (.t 8)],
    .kill [0, 1, 6, 7, 8],
    .ia 10 1 (.t 5) (.t 9),
    .ld 11 1 false (.t 10),
    .mv 4 (.t 11),
    .keep [4]])
  (.ret))⟩
def sl10OneProp_m : Fn := ⟨1, [.cell 2 3 true], false,
  .seq (.r [.al 2 TProp false])
  (.seq (.r [.mv 3 (.t 0),
    .bs 4 .str false 3 [.d (.s [])] [(0, (.c (.d (.s [68, 65, 86, 58])))), (1, (.c (.d (.s [117, 58, 120])))), (2, (.c (.d (.s []))))],
    .frz 4,
    .call 5 true [0] (.c (.clo sl1Str [])) [(.t 3), (.t 4)],
    .mv 6 (.t 0),
    .bs 7 .str false 3 [.d (.s [])] [(0, (.c (.d (.s [97])))), (1, (.c (.d (.s [99, 111, 108, 111, 114])))), (2, (.c (.d (.s [98]))))],
    .frz 7,
    .call 8 true [0] (.c (.clo sl1Str [])) [(.t 6), (.t 7)],
    .mv 9 (.t 0),
    .kill [0, 3, 4, 6, 7],
    .bs 10 .str false 3 [.d (.s [])] [(0, (.c (.d (.s [])))), (1, (.c (.d (.s [114, 101, 100])))), (2, (.c (.d (.s [97, 60, 98]))))],
    .frz 10,
    .call 11 true [0] (.c (.clo sl1Str [])) [(.t 9), (.t 10)],
    .bd 12 [.d (.s []), .d (.s []), .d (.s [])] [(0, 1, (.t 5)), (1, 1, (.t 8)), (2, 1, (.t 11))],
    .kill [5, 8, 9, 10, 11],
    .st 3 (.t 2) (.t 12),
    .keep [2],
    .drop [68, 71, 74]])
  (.ret))⟩
/-- live: [0, 3]; objects: [] -/
def sNumText_l0 : C :=
  .seq (.seq (.r [.mv 12 (.t 0),
      .bin 13 .gtr .num (.t 12) (.c (.d (.i .i64 9))),
      .kill [12]])
    (.cond (.t 13)
      (.pre [.kill [13]] (.skip))
      (.pre [.keep [3]] (.ex 0))))
    (.blk 1 (.seq (.r [.mv 14 (.t 0),
      .bin 15 .quo .num (.t 14) (.c (.d (.i .i64 10))),
      .mv 0 (.t 15),
      .kill [14, 15]])
    (.r [.mv 16 (.t 0),
      .bin 17 .rem .num (.t 16) (.c (.d (.i .i64 10))),
      .bin 18 .add .num (.c (.d (.i .i64 48))) (.t 17),
      .cvi 19 .u8 (.t 18),
      .bs 20 .u8 false 1 [.d (.u 0)] [(0, (.t 19))],
      .b2s 21 (.t 20),
      .kill [16, 17, 18, 19, 20],
      .mv 22 (.t 3),
      .bin 23 .add .num (.t 21) (.t 22),
      .mv 3 (.t 23),
      .keep [3, 0],
      .drop [84]])))
def sNumText_m : Fn := ⟨1, [.t 2], false,
  .seq (.r [.mv 2 (.c (.d (.s []))),
    .kill [2]])
  (.seq (.seq (.r [.mv 4 (.t 0),
    .bin 5 .lss .num (.t 4) (.c (.d (.i .i64 0))),
    .kill [4]])
  (.cond (.t 5)
    (.pre [.keep []] (.r [.mv 0 (.c (.d (.i .i64 0)))]))
    (.pre [.kill [5]] (.skip))))
  (.seq (.r [.mv 6 (.t 0),
    .bin 7 .rem .num (.t 6) (.c (.d (.i .i64 10))),
    .bin 8 .add .num (.c (.d (.i .i64 48))) (.t 7),
    .cvi 9 .u8 (.t 8),
    .bs 10 .u8 false 1 [.d (.u 0)] [(0, (.t 9))],
    .b2s 11 (.t 10),
    .kill [6, 7, 8, 9, 10],
    .mv 3 (.t 11),
    .keep [3, 0],
    .drop [74]])
  (.seq (.blk 0 (.pre [.keep [3, 0]] (.loop sNumText_l0)))
  (.seq (.r [.mv 24 (.t 3),
    .mv 2 (.t 24),
    .keep [2]])
  (.ret)))))⟩
def sl1Once_m : Fn := ⟨2, [.t 4], false,
  .seq (.r [.mv 4 (.c (.d (.b false))),
    .kill [4]])
  (.seq (.r [.mv 5 (.t 0),
    .mv 6 (.t 1),
    .call 7 true [0] (.c (.clo sl1Below [])) [(.t 5), (.t 6)],
    .bin 8 .eql .num (.t 7) (.c (.d (.i .i64 0))),
    .kill [0, 1, 5, 6, 7],
    .mv 4 (.t 8),
    .keep [4]])
  (.ret))⟩
def sl2Name_m : Fn := ⟨1, [.t 2], false,
  .seq (.r [.mv 2 (.c (.d (.s []))),
    .kill [2]])
  (.seq (.r [.mv 3 (.t 0),
    .bs 4 .str false 7 [.d (.s [])] [(0, (.c (.d (.s [97])))), (1, (.c (.d (.s [98])))), (2, (.c (.d (.s [99])))), (3, (.c (.d (.s [97, 32, 98])))), (4, (.c (.d (.s [120, 37, 121])))), (5, (.c (.d (.s [97])))), (6, (.c (.d (.s [98]))))],
    .frz 4,
    .call 5 true [0] (.c (.clo sl1Str [])) [(.t 3), (.t 4)],
    .mv 2 (.t 5),
    .keep [2],
    .drop [68]])
  (.ret))⟩
/-- live: [0, 3, 4]; objects: [0, 67] -/
def sl2Draw_l0 : C :=
  .seq (.seq (.r [.mv 8 (.t 4),
      .bin 9 .gtr .num (.t 8) (.c (.d (.i .i64 0))),
      .kill [8]])
    (.cond (.t 9)
      (.pre [.kill [9]] (.skip))
      (.pre [.keep [3]] (.ex 0))))
    (.seq (.blk 1 (.r [.mv 12 (.t 3),
      .mv 13 (.t 0),
      .call 14 true [0] (.c (.clo sl2Name [])) [(.t 13)],
      .bs 15 .str false 1 [.d (.s [])] [(0, (.t 14))],
      .app 16 .str false 16 (.t 12) (.t 15),
      .kill [3, 12, 13, 14, 15],
      .mv 3 (.t 16),
      .ren 80 67,
      .keep [4, 3, 0],
      .drop [79, 80]]))
    (.r [.mv 10 (.t 4),
      .bin 11 .sub .num (.t 10) (.c (.d (.i .i64 1))),
      .mv 4 (.t 11),
      .kill [10, 11]]))
def sl2Draw_m : Fn := ⟨1, [.t 2], false,
  .seq (.r [.mv 2 (.c (.nil .str)),
    .opn 2 2 false,
    .kill [2],
    .drop [66]])
  (.seq (.r [.bs 5 .str false 0 [.d (.s [])] [],
    .mv 3 (.t 5),
    .ren 69 67,
    .kill [5],
    .drop [69]])
  (.seq (.seq (.r [.mv 6 (.t 0),
    .call 7 true [0] (.c (.clo sl1Below [])) [(.t 6), (.c (.d (.i .i64 4)))],
    .mv 4 (.t 7),
    .kill [6, 7]])
  (.blk 0 (.pre [.keep [4, 3, 0]] (.loop sl2Draw_l0))))
  (.seq (.r [.mv 17 (.t 3),
    .mv 2 (.t 17),
    .ren 67 66,
    .keep [2],
    .drop [67]])
  (.ret))))⟩
/-- live: [0, 3, 4]; objects: [0, 67] -/
def sl12Sets_l0 : C :=
  .seq (.seq (.r [.mv 9 (.t 4),
      .bin 10 .gtr .num (.t 9) (.c (.d (.i .i64 0))),
      .kill [9]])
    (.cond (.t 10)
      (.pre [.kill [10]] (.skip))
      (.pre [.keep [3]] (.ex 0))))
    (.seq (.blk 1 (.seq (.r [.mv 13 (.t 0),
      .call 14 true [0] (.c (.clo sl1Once [])) [(.t 13), (.c (.d (.i .i64 3)))],
      .mv 15 (.t 0),
      .call 16 true [0] (.c (.clo sl10OneProp [])) [(.t 15)],
      .bd 17 [.d (.b false), .d (.s []), .d (.s []), .d (.s [])] [(0, 1, (.t 14)), (1, 3, (.t 16))],
      .al 5 TSet false,
      .st 4 (.t 5) (.t 17),
      .keep [5, 4, 3, 0]])
    (.seq (.seq (.r [.fa 18 (.t 5) 0,
      .ld 19 1 false (.t 18),
      .kill [18]])
    (.cond (.t 19)
      (.pre [.kill [19]] (.r [.fa 20 (.t 5) 1,
        .fa 21 (.t 20) 2,
        .st 1 (.t 21) (.c (.d (.s []))),
        .kill [20, 21]]))
      (.pre [.kill [19]] (.skip))))
    (.r [.mv 22 (.t 3),
      .ld 23 4 true (.t 5),
      .bs 24 TSet false 1 [.d (.b false), .d (.s []), .d (.s []), .d (.s [])] [(0, (.t 23))],
      .app 25 TSet false 56 (.t 22) (.t 24),
      .kill [3, 5, 22, 23, 24],
      .mv 3 (.t 25),
      .ren 89 67,
      .keep [4, 3, 0],
      .drop [69, 88, 89]]))))
    (.r [.mv 11 (.t 4),
      .bin 12 .sub .num (.t 11) (.c (.d (.i .i64 1))),
      .mv 4 (.t 12),
      .kill [11, 12]]))
def sl12Sets_m : Fn := ⟨1, [.t 2], false,
  .seq (.r [.mv 2 (.c (.nil TSet)),
    .opn 2 2 false,
    .kill [2],
    .drop [66]])
  (.seq (.r [.bs 6 TSet false 0 [.d (.b false), .d (.s []), .d (.s []), .d (.s [])] [],
    .mv 3 (.t 6),
    .ren 70 67,
    .kill [6],
    .drop [70]])
  (.seq (.seq (.r [.mv 7 (.t 0),
    .call 8 true [0] (.c (.clo sl1Below [])) [(.t 7), (.c (.d (.i .i64 4)))],
    .mv 4 (.t 8),
    .kill [7, 8]])
  (.blk 0 (.pre [.keep [4, 3, 0]] (.loop sl12Sets_l0))))
  (.seq (.r [.mv 26 (.t 3),
    .mv 2 (.t 26),
    .ren 67 66,
    .keep [2],
    .drop [67]])
  (.ret))))⟩
def sl1Str_m : Fn := ⟨2, [.t 4], false,
  .seq (.r [.mv 4 (.c (.d (.s []))),
    .kill [4]])
  (.seq (.r [.mv 5 (.t 1),
    .mv 6 (.t 0),
    .mv 7 (.t 1),
    .len 8 (.t 7),
    .call 9 true [0] (.c (.clo sl1Below [])) [(.t 6), (.t 8)],
    .kill [0, 1, 6, 7, 8],
    .ia 10 1 (.t 5) (.t 9),
    .ld 11 1 false (.t 10),
    .mv 4 (.t 11),
    .keep [4]])
  (.ret))⟩
def icopyRes_m : Fn := ⟨1, [.cell 2 5 true], false,
  .seq (.r [.bxl 1 TRes (.t 0),
    .al 2 TRes false,
    .kill [0]])
  (.seq (.post (.r [.fa 3 (.t 1) 0,
    .ld 4 1 false (.t 3),
    .an [] [] [6064] [] (.call 5 false [] (.c (.clo icopyPath [])) [(.t 4)]),
    .an [6064] [] [] [] (.fa 6 (.t 1) 4),
    .an [6064] [] [] [] (.ld 7 1 false (.t 6)),
    .an [] [] [72] [] (.app 8 TProp false 48 (.c (.nil TProp)) (.t 7)),
    .an [72] [] [] [] (.fa 9 (.t 1) 0),
    .an [] [] [6064] [65] (.st 1 (.t 9) (.t 5)),
    .fa 10 (.t 1) 4,
    .an [] [] [72] [65] (.st 1 (.t 10) (.t 8))]) [.keep [2, 1], .drop [72, 6064]])
  (.seq (.r [.ldt 11 5 true (.t 1),
    .st 5 (.t 2) (.t 11),
    .keep [2],
    .drop [65, 12064, 12068]])
  (.ret)))⟩
def ipropOk_m : Fn := ⟨1, [.t 2], false,
  .seq (.r [.bx 1 TProp false (.t 0),
    .mv 2 (.c (.d (.b false))),
    .keep [1]])
  (.seq (.r [.fa 3 (.t 1) 0,
    .ld 4 1 false (.t 3),
    .lns 5 (.t 4),
    .bin 6 .leq .num (.t 5) (.c (.d (.i .i64 20))),
    .mv 7 (.t 6),
    .gd 7 true (some 8) (.fa 8 (.t 1) 0),
    .gd 7 true (some 9) (.ld 9 1 false (.t 8)),
    .kill [3, 4, 5, 6, 8],
    .gd 7 true (some 10) (.call 10 true [] (.c (.clo iPlain [])) [(.t 9)]),
    .pick 11 (.t 7) (.t 10) (.c (.d (.b false))),
    .mv 12 (.t 11),
    .gd 12 true (some 13) (.fa 13 (.t 1) 1),
    .gd 12 true (some 14) (.ld 14 1 false (.t 13)),
    .kill [7, 9, 10, 11, 13],
    .gd 12 true (some 15) (.call 15 true [] (.c (.clo iSmallName [])) [(.t 14)]),
    .pick 16 (.t 12) (.t 15) (.c (.d (.b false))),
    .mv 17 (.t 16),
    .gd 17 true (some 18) (.fa 18 (.t 1) 2),
    .gd 17 true (some 19) (.ld 19 1 false (.t 18)),
    .kill [12, 14, 15, 16, 18],
    .gd 17 true (some 20) (.lns 20 (.t 19)),
    .gd 17 true (some 21) (.bin 21 .leq .num (.t 20) (.c (.d (.i .i64 20)))),
    .pick 22 (.t 17) (.t 21) (.c (.d (.b false))),
    .mv 23 (.t 22),
    .kill [17, 19, 20, 21, 22],
    .gd 23 true (some 24) (.fa 24 (.t 1) 2),
    .gd 23 true (some 25) (.ld 25 1 false (.t 24)),
    .gd 23 true (some 26) (.call 26 true [] (.c (.clo iPlain [])) [(.t 25)]),
    .pick 27 (.t 23) (.t 26) (.c (.d (.b false))),
    .kill [1, 23, 24, 25, 26],
    .mv 2 (.t 27),
    .keep [2],
    .drop [65]])
  (.ret))⟩
/-- live: [3, 5, 6, 11, 12, 13]; objects: [67, 69] -/
def isetProp_l0 : C :=
  .seq (.r [.bin 14 .lss .num (.t 13) (.t 12)])
    (.seq (.cond (.t 14)
      (.pre [.kill [14]] (.skip))
      (.pre [.keep [6, 5, 3]] (.ex 0)))
    (.seq (.blk 1 (.seq (.r [.ia 15 3 (.t 11) (.t 13),
      .ld 16 3 true (.t 15),
      .al 8 TProp false,
      .st 3 (.t 8) (.t 16),
      .kill [15, 16]])
    (.seq (.seq (.r [.mv 17 (.t 6),
      .not 18 (.t 17),
      .mv 19 (.t 18),
      .gd 19 true (some 20) (.ld 20 3 true (.t 8)),
      .gd 19 true (some 21) (.fa 21 (.t 3) 1),
      .gd 19 true (some 22) (.ld 22 3 true (.t 21)),
      .gd 19 true (some 23) (.call 23 true [] (.c (.clo ilessProp [])) [(.t 20), (.t 22)]),
      .kill [17, 18, 20, 21, 22],
      .gd 19 true (some 24) (.not 24 (.t 23)),
      .pick 25 (.t 19) (.t 24) (.c (.d (.b false))),
      .kill [17, 18, 19, 20, 21, 22, 23, 24]])
    (.cond (.t 25)
      (.pre [.kill [6, 25]] (.seq (.r [.mv 26 (.t 5),
        .fa 27 (.t 3) 1,
        .ld 28 3 true (.t 27),
        .bs 29 TProp false 1 [.d (.s []), .d (.s []), .d (.s [])] [(0, (.t 28))],
        .app 30 TProp false 48 (.t 26) (.t 29),
        .kill [5, 26, 27, 28, 29],
        .mv 5 (.t 30),
        .ren 94 69,
        .kill [26, 27, 28, 29, 30],
        .drop [93, 94]])
      (.r [.mv 6 (.c (.d (.b true)))])))
      (.pre [.kill [25]] (.skip))))
    (.seq (.r [.fa 31 (.t 8) 0,
      .ld 32 1 false (.t 31),
      .fa 33 (.t 3) 1,
      .fa 34 (.t 33) 0,
      .ld 35 1 false (.t 34),
      .bin 36 .neq .num (.t 32) (.t 35),
      .kill [31, 32, 33, 34, 35],
      .mv 37 (.t 36),
      .gd 37 false (some 38) (.fa 38 (.t 8) 1),
      .gd 37 false (some 39) (.ld 39 1 false (.t 38)),
      .gd 37 false (some 40) (.fa 40 (.t 3) 1),
      .gd 37 false (some 41) (.fa 41 (.t 40) 1),
      .gd 37 false (some 42) (.ld 42 1 false (.t 41)),
      .gd 37 false (some 43) (.bin 43 .neq .num (.t 39) (.t 42)),
      .kill [36, 38, 39, 40, 41, 42],
      .pick 44 (.t 37) (.c (.d (.b true))) (.t 43),
      .keep [44, 13, 12, 11, 8, 6, 5, 3]])
    (.cond (.t 44)
      (.pre [.kill [44]] (.r [.mv 45 (.t 5),
        .ld 46 3 true (.t 8),
        .bs 47 TProp false 1 [.d (.s []), .d (.s []), .d (.s [])] [(0, (.t 46))],
        .app 48 TProp false 48 (.t 45) (.t 47),
        .kill [5, 8, 45, 46, 47],
        .mv 5 (.t 48),
        .ren 112 69,
        .kill [8, 45, 46, 47, 48],
        .drop [72, 111, 112]]))
      (.pre [.kill [8, 44], .drop [72]] (.skip)))))))
    (.r [.bin 49 .add .num (.t 13) (.c (.d (.i .i64 1))),
      .mv 13 (.t 49),
      .kill [49]])))
def isetProp_m : Fn := ⟨2, [.t 4], false,
  .seq (.r [.bx 3 TSet false (.t 1),
    .mv 4 (.c (.nil TProp)),
    .opn 4 4 false,
    .kill [1, 4],
    .drop [68]])
  (.seq (.r [.mv 5 (.c (.nil TProp)),
    .opn 5 5 false])
  (.seq (.r [.fa 9 (.t 3) 0,
    .ld 10 1 false (.t 9),
    .mv 6 (.t 10),
    .kill [9, 10]])
  (.seq (.seq (.r [.mv 11 (.t 0),
    .len 12 (.t 11),
    .mv 13 (.c (.d (.i .i64 0))),
    .kill [0]])
  (.blk 0 (.pre [.keep [13, 12, 11, 6, 5, 3]] (.loop isetProp_l0))))
  (.seq (.seq (.r [.mv 50 (.t 6),
    .not 51 (.t 50),
    .kill [6, 50]])
  (.cond (.t 51)
    (.pre [.kill [51]] (.r [.mv 52 (.t 5),
      .fa 53 (.t 3) 1,
      .ld 54 3 true (.t 53),
      .bs 55 TProp false 1 [.d (.s []), .d (.s []), .d (.s [])] [(0, (.t 54))],
      .app 56 TProp false 48 (.t 52) (.t 55),
      .kill [3, 5, 52, 53, 54, 55],
      .mv 5 (.t 56),
      .ren 120 69,
      .keep [5],
      .drop [67, 119, 120]]))
    (.pre [.keep [5], .drop [67]] (.skip))))
  (.seq (.r [.mv 57 (.t 5),
    .mv 4 (.t 57),
    .ren 69 68,
    .keep [4],
    .drop [69]])
  (.ret))))))⟩
/-- live: [0, 5, 6, 7]; objects: [] -/
def iPropsOk_l0 : C :=
  .seq (.r [.bin 8 .lss .num (.t 7) (.t 6)])
    (.seq (.cond (.t 8)
      (.pre [.kill [8]] (.skip))
      (.pre [.keep [0]] (.ex 0)))
    (.seq (.blk 1 (.seq (.r [.mv 9 (.t 7),
      .ia 10 3 (.t 5) (.t 7),
      .ld 11 3 true (.t 10),
      .al 4 TProp false,
      .mv 3 (.t 9),
      .st 3 (.t 4) (.t 11),
      .kill [9, 10, 11]])
    (.seq (.post (.r [.ld 12 3 true (.t 4),
      .call 13 true [] (.c (.clo ipropOk [])) [(.t 12)],
      .not 14 (.t 13),
      .mv 15 (.t 14),
      .gd 15 false (some 16) (.mv 16 (.t 3)),
      .gd 15 false (some 17) (.bin 17 .gtr .num (.t 16) (.c (.d (.i .i64 0)))),
      .gd 15 false (some 18) (.mv 18 (.t 17)),
      .gd 18 true (some 19) (.mv 19 (.t 0)),
      .gd 18 true (some 20) (.mv 20 (.t 3)),
      .gd 18 true (some 21) (.bin 21 .sub .num (.t 20) (.c (.d (.i .i64 1)))),
      .gd 18 true (some 22) (.ia 22 3 (.t 19) (.t 21)),
      .gd 18 true (some 23) (.ld 23 3 true (.t 22)),
      .gd 18 true (some 24) (.ld 24 3 true (.t 4)),
      .gd 18 true (some 25) (.call 25 true [] (.c (.clo ilessProp [])) [(.t 23), (.t 24)]),
      .gd 18 true (some 26) (.not 26 (.t 25)),
      .gd 15 false (some 27) (.pick 27 (.t 18) (.t 26) (.c (.d (.b false)))),
      .pick 28 (.t 15) (.c (.d (.b true))) (.t 27)]) [.keep [28, 7, 6, 5, 0], .drop [68]])
    (.cond (.t 28)
      (.pre [.keep []] (.seq (.r [.mv 2 (.c (.d (.b false)))])
      (.ret)))
      (.pre [.kill [28]] (.skip))))))
    (.r [.bin 29 .add .num (.t 7) (.c (.d (.i .i64 1))),
      .mv 7 (.t 29),
      .kill [29]])))
def iPropsOk_m : Fn := ⟨1, [.t 2], false,
  .seq (.r [.mv 2 (.c (.d (.b false))),
    .kill [2]])
  (.seq (.seq (.r [.mv 5 (.t 0),
    .len 6 (.t 5),
    .mv 7 (.c (.d (.i .i64 0)))])
  (.blk 0 (.pre [.keep [7, 6, 5, 0]] (.loop iPropsOk_l0))))
  (.seq (.r [.mv 30 (.t 0),
    .len 31 (.t 30),
    .bin 32 .leq .num (.t 31) (.c (.d (.i .i64 4))),
    .mv 2 (.t 32),
    .keep [2]])
  (.ret)))⟩
def sl1In_m : Fn := ⟨3, [.t 6], false,
  .seq (.r [.mv 6 (.c (.d (.b false))),
    .kill [6]])
  (.seq (.r [.mv 7 (.t 0),
    .mv 8 (.t 1),
    .bin 9 .geq .num (.t 7) (.t 8),
    .mv 10 (.t 9),
    .gd 10 true (some 11) (.mv 11 (.t 0)),
    .kill [0, 1, 7, 8, 9],
    .gd 10 true (some 12) (.mv 12 (.t 2)),
    .gd 10 true (some 13) (.bin 13 .leq .num (.t 11) (.t 12)),
    .pick 14 (.t 10) (.t 13) (.c (.d (.b false))),
    .kill [2, 10, 11, 12, 13],
    .mv 6 (.t 14),
    .keep [6]])
  (.ret))⟩
/-- live: [0, 3]; objects: [] -/
def sPathOk_l0 : C :=
  .seq (.seq (.r [.mv 4 (.t 3),
      .mv 5 (.t 0),
      .len 6 (.t 5),
      .bin 7 .lss .num (.t 4) (.t 6),
      .kill [4, 5, 6]])
    (.cond (.t 7)
      (.pre [.kill [7]] (.skip))
      (.pre [.keep [0]] (.ex 0))))
    (.seq (.blk 1 (.seq (.r [.mv 10 (.t 0),
      .mv 11 (.t 3),
      .ia 12 1 (.t 10) (.t 11),
      .ld 13 1 false (.t 12),
      .call 14 true [] (.c (.clo sNameOk [])) [(.t 13)],
      .not 15 (.t 14),
      .keep [15, 3, 0]])
    (.cond (.t 15)
      (.pre [.keep []] (.seq (.r [.mv 2 (.c (.d (.b false)))])
      (.ret)))
      (.pre [.kill [15]] (.skip)))))
    (.r [.mv 8 (.t 3),
      .bin 9 .add .num (.t 8) (.c (.d (.i .i64 1))),
      .mv 3 (.t 9),
      .kill [8, 9]]))
def sPathOk_m : Fn := ⟨1, [.t 2], false,
  .seq (.r [.mv 2 (.c (.d (.b false))),
    .kill [2]])
  (.seq (.seq (.r [.mv 3 (.c (.d (.i .i64 0)))])
  (.blk 0 (.pre [.keep [3, 0]] (.loop sPathOk_l0))))
  (.seq (.r [.mv 16 (.t 0),
    .len 17 (.t 16),
    .bin 18 .leq .num (.t 17) (.c (.d (.i .i64 4))),
    .mv 2 (.t 18),
    .keep [2]])
  (.ret)))⟩
/-- live: [0, 3]; objects: [] -/
def sPropsOk_l0 : C :=
  .seq (.seq (.r [.mv 4 (.t 3),
      .mv 5 (.t 0),
      .len 6 (.t 5),
      .bin 7 .lss .num (.t 4) (.t 6),
      .kill [4, 5, 6]])
    (.cond (.t 7)
      (.pre [.kill [7]] (.skip))
      (.pre [.keep [0]] (.ex 0))))
    (.seq (.blk 1 (.seq (.post (.r [.mv 10 (.t 0),
      .mv 11 (.t 3),
      .ia 12 3 (.t 10) (.t 11),
      .ld 13 3 true (.t 12),
      .call 14 true [] (.c (.clo sl10Prop [])) [(.t 13)],
      .not 15 (.t 14),
      .mv 16 (.t 15),
      .gd 16 false (some 17) (.mv 17 (.t 3)),
      .gd 16 false (some 18) (.bin 18 .gtr .num (.t 17) (.c (.d (.i .i64 0)))),
      .gd 16 false (some 19) (.mv 19 (.t 18)),
      .gd 19 true (some 20) (.mv 20 (.t 0)),
      .gd 19 true (some 21) (.mv 21 (.t 3)),
      .gd 19 true (some 22) (.bin 22 .sub .num (.t 21) (.c (.d (.i .i64 1)))),
      .gd 19 true (some 23) (.ia 23 3 (.t 20) (.t 22)),
      .gd 19 true (some 24) (.ld 24 3 true (.t 23)),
      .gd 19 true (some 25) (.mv 25 (.t 0)),
      .gd 19 true (some 26) (.mv 26 (.t 3)),
      .gd 19 true (some 27) (.ia 27 3 (.t 25) (.t 26)),
      .gd 19 true (some 28) (.ld 28 3 true (.t 27)),
      .gd 19 true (some 29) (.call 29 true [] (.c (.clo sl10LessProp [])) [(.t 24), (.t 28)]),
      .gd 19 true (some 30) (.not 30 (.t 29)),
      .gd 16 false (some 31) (.pick 31 (.t 19) (.t 30) (.c (.d (.b false)))),
      .pick 32 (.t 16) (.c (.d (.b true))) (.t 31)]) [.keep [32, 3, 0]])
    (.cond (.t 32)
      (.pre [.keep []] (.seq (.r [.mv 2 (.c (.d (.b false)))])
      (.ret)))
      (.pre [.kill [32]] (.skip)))))
    (.r [.mv 8 (.t 3),
      .bin 9 .add .num (.t 8) (.c (.d (.i .i64 1))),
      .mv 3 (.t 9),
      .kill [8, 9]]))
def sPropsOk_m : Fn := ⟨1, [.t 2], false,
  .seq (.r [.mv 2 (.c (.d (.b false))),
    .kill [2]])
  (.seq (.seq (.r [.mv 3 (.c (.d (.i .i64 0)))])
  (.blk 0 (.pre [.keep [3, 0]] (.loop sPropsOk_l0))))
  (.seq (.r [.mv 33 (.t 0),
    .len 34 (.t 33),
    .bin 35 .leq .num (.t 34) (.c (.d (.i .i64 4))),
    .mv 2 (.t 35),
    .keep [2]])
  (.ret)))⟩
/-- live: [0, 1, 5]; objects: [] -/
def sLessPath_l0 : C :=
  .seq (.seq (.r [.mv 6 (.t 5),
      .mv 7 (.t 0),
      .len 8 (.t 7),
      .bin 9 .lss .num (.t 6) (.t 8),
      .mv 10 (.t 9),
      .gd 10 true (some 11) (.mv 11 (.t 5)),
      .gd 10 true (some 12) (.mv 12 (.t 1)),
      .gd 10 true (some 13) (.len 13 (.t 12)),
      .kill [6, 7, 8, 9, 12],
      .gd 10 true (some 14) (.bin 14 .lss .num (.t 11) (.t 13)),
      .pick 15 (.t 10) (.t 14) (.c (.d (.b false))),
      .keep [15, 5, 1, 0]])
    (.cond (.t 15)
      (.pre [.kill [15]] (.skip))
      (.pre [.kill [5, 15]] (.ex 0))))
    (.seq (.blk 1 (.seq (.post (.r [.mv 18 (.t 0),
      .mv 19 (.t 5),
      .ia 20 1 (.t 18) (.t 19),
      .ld 21 1 false (.t 20),
      .mv 22 (.t 1),
      .mv 23 (.t 5),
      .ia 24 1 (.t 22) (.t 23),
      .ld 25 1 false (.t 24),
      .bin 26 .neq .num (.t 21) (.t 25)]) [.keep [26, 5, 1, 0]])
    (.cond (.t 26)
      (.pre [.kill [26]] (.seq (.post (.r [.mv 27 (.t 0),
        .mv 28 (.t 5),
        .ia 29 1 (.t 27) (.t 28),
        .ld 30 1 false (.t 29),
        .mv 31 (.t 1),
        .mv 32 (.t 5),
        .ia 33 1 (.t 31) (.t 32),
        .ld 34 1 false (.t 33),
        .bin 35 .lss .num (.t 30) (.t 34),
        .mv 4 (.t 35)]) [.keep [4]])
      (.ret)))
      (.pre [.kill [26]] (.skip)))))
    (.r [.mv 16 (.t 5),
      .bin 17 .add .num (.t 16) (.c (.d (.i .i64 1))),
      .mv 5 (.t 17),
      .kill [16, 17]]))
def sLessPath_m : Fn := ⟨2, [.t 4], false,
  .seq (.r [.mv 4 (.c (.d (.b false))),
    .kill [4]])
  (.seq (.seq (.r [.mv 5 (.c (.d (.i .i64 0)))])
  (.blk 0 (.pre [.keep [5, 1, 0]] (.loop sLessPath_l0))))
  (.seq (.r [.mv 36 (.t 0),
    .len 37 (.t 36),
    .mv 38 (.t 1),
    .len 39 (.t 38),
    .bin 40 .lss .num (.t 37) (.t 39),
    .kill [0, 1, 36, 37, 38, 39],
    .mv 4 (.t 40),
    .keep [4]])
  (.ret)))⟩
def sIsColl_m : Fn := ⟨2, [.t 4], false,
  .seq (.r [.mv 4 (.c (.d (.b false))),
    .kill [4]])
  (.seq (.r [.mv 6 (.t 0),
    .mv 7 (.t 1),
    .call 8 true [] (.c (.clo sFindRes [])) [(.t 6), (.t 7)],
    .mv 5 (.t 8),
    .kill [6, 7, 8]])
  (.seq (.r [.mv 9 (.t 1),
    .len 10 (.t 9),
    .bin 11 .eql .num (.t 10) (.c (.d (.i .i64 0))),
    .mv 12 (.t 11),
    .gd 12 false (some 13) (.mv 13 (.t 5)),
    .gd 12 false (some 14) (.bin 14 .geq .num (.t 13) (.c (.d (.i .i64 0)))),
    .kill [1, 9, 10, 11, 13],
    .gd 12 false (some 15) (.mv 15 (.t 14)),
    .gd 15 true (some 16) (.mv 16 (.t 0)),
    .gd 15 true (some 17) (.mv 17 (.t 5)),
    .gd 15 true (some 18) (.ia 18 5 (.t 16) (.t 17)),
    .kill [0, 5, 14, 16, 17],
    .gd 15 true (some 19) (.fa 19 (.t 18) 1),
    .gd 15 true (some 20) (.ld 20 1 false (.t 19)),
    .gd 12 false (some 21) (.pick 21 (.t 15) (.t 20) (.c (.d (.b false)))),
    .pick 22 (.t 12) (.c (.d (.b true))) (.t 21),
    .kill [12, 15, 18, 19, 20, 21],
    .mv 4 (.t 22),
    .keep [4]])
  (.ret)))⟩
def sAbove_m : Fn := ⟨1, [.t 2], false,
  .seq (.r [.mv 2 (.c (.nil .str)),
    .opn 2 2 false,
    .kill [2],
    .drop [66]])
  (.seq (.seq (.r [.mv 3 (.t 0),
    .len 4 (.t 3),
    .bin 5 .eql .num (.t 4) (.c (.d (.i .i64 0))),
    .kill [3, 4]])
  (.cond (.t 5)
    (.pre [.keep []] (.seq (.r [.bs 6 .str false 0 [.d (.s [])] [],
      .mv 2 (.t 6),
      .ren 70 66,
      .kill [6],
      .drop [70]])
    (.ret)))
    (.pre [.kill [5]] (.skip))))
  (.seq (.r [.bs 7 .str false 0 [.d (.s [])] [],
    .mv 8 (.t 0),
    .mv 9 (.t 0),
    .len 10 (.t 9),
    .bin 11 .sub .num (.t 10) (.c (.d (.i .i64 1))),
    .slc 12 1 (.t 8) none (some (.t 11)),
    .kill [0, 8, 9, 10, 11],
    .app 13 .str false 16 (.t 7) (.t 12),
    .mv 2 (.t 13),
    .ren 77 66,
    .keep [2],
    .drop [71, 77]])
  (.ret)))⟩
def sl10Copy_m : Fn := ⟨1, [.cell 2 5 true], false,
  .seq (.r [.bx 1 TRes true (.t 0),
    .al 2 TRes false,
    .kill [0]])
  (.seq (.r [.ld 4 5 true (.t 1),
    .al 3 TRes false,
    .stl 5 (.t 3) (.t 4),
    .kill [4]])
  (.seq (.r [.bs 5 .str false 0 [.d (.s [])] [],
    .fa 6 (.t 1) 0,
    .ld 7 1 false (.t 6),
    .app 8 .str false 16 (.t 5) (.t 7),
    .fa 9 (.t 3) 0,
    .st 1 (.t 9) (.t 8),
    .keep [3, 2, 1],
    .drop [69, 72]])
  (.seq (.r [.bs 10 TProp false 0 [.d (.s []), .d (.s []), .d (.s [])] [],
    .fa 11 (.t 1) 4,
    .ld 12 1 false (.t 11),
    .app 13 TProp false 48 (.t 10) (.t 12),
    .fa 14 (.t 3) 4,
    .st 1 (.t 14) (.t 13),
    .keep [3, 2],
    .drop [65, 74, 77]])
  (.seq (.r [.ldt 15 5 true (.t 3),
    .st 5 (.t 2) (.t 15),
    .keep [2],
    .drop [67, 16064, 16068]])
  (.ret)))))⟩
/-- live: [0, 1, 5]; objects: [] -/
def sSamePath_l0 : C :=
  .seq (.seq (.r [.mv 11 (.t 5),
      .mv 12 (.t 0),
      .len 13 (.t 12),
      .bin 14 .lss .num (.t 11) (.t 13),
      .kill [11, 12, 13]])
    (.cond (.t 14)
      (.pre [.kill [14]] (.skip))
      (.pre [.keep []] (.ex 0))))
    (.seq (.blk 1 (.seq (.post (.r [.mv 17 (.t 0),
      .mv 18 (.t 5),
      .ia 19 1 (.t 17) (.t 18),
      .ld 20 1 false (.t 19),
      .mv 21 (.t 1),
      .mv 22 (.t 5),
      .ia 23 1 (.t 21) (.t 22),
      .ld 24 1 false (.t 23),
      .bin 25 .neq .num (.t 20) (.t 24)]) [.keep [25, 5, 1, 0]])
    (.cond (.t 25)
      (.pre [.keep []] (.seq (.r [.mv 4 (.c (.d (.b false)))])
      (.ret)))
      (.pre [.kill [25]] (.skip)))))
    (.r [.mv 15 (.t 5),
      .bin 16 .add .num (.t 15) (.c (.d (.i .i64 1))),
      .mv 5 (.t 16),
      .kill [15, 16]]))
def sSamePath_m : Fn := ⟨2, [.t 4], false,
  .seq (.r [.mv 4 (.c (.d (.b false))),
    .kill [4]])
  (.seq (.seq (.r [.mv 6 (.t 0),
    .len 7 (.t 6),
    .mv 8 (.t 1),
    .len 9 (.t 8),
    .bin 10 .neq .num (.t 7) (.t 9),
    .keep [10, 1, 0]])
  (.cond (.t 10)
    (.pre [.keep []] (.seq (.r [.mv 4 (.c (.d (.b false)))])
    (.ret)))
    (.pre [.kill [10]] (.skip))))
  (.seq (.seq (.r [.mv 5 (.c (.d (.i .i64 0)))])
  (.blk 0 (.pre [.keep [5, 1, 0]] (.loop sSamePath_l0))))
  (.seq (.r [.mv 4 (.c (.d (.b true)))])
  (.ret))))⟩
def sl10Prop_m : Fn := ⟨1, [.t 2], false,
  .seq (.r [.bx 1 TProp false (.t 0),
    .mv 2 (.c (.d (.b false))),
    .keep [1]])
  (.seq (.r [.fa 3 (.t 1) 0,
    .ld 4 1 false (.t 3),
    .lns 5 (.t 4),
    .bin 6 .leq .num (.t 5) (.c (.d (.i .i64 20))),
    .mv 7 (.t 6),
    .gd 7 true (some 8) (.fa 8 (.t 1) 0),
    .gd 7 true (some 9) (.ld 9 1 false (.t 8)),
    .kill [3, 4, 5, 6, 8],
    .gd 7 true (some 10) (.call 10 true [] (.c (.clo sPlain [])) [(.t 9)]),
    .pick 11 (.t 7) (.t 10) (.c (.d (.b false))),
    .mv 12 (.t 11),
    .gd 12 true (some 13) (.fa 13 (.t 1) 1),
    .gd 12 true (some 14) (.ld 14 1 false (.t 13)),
    .kill [7, 9, 10, 11, 13],
    .gd 12 true (some 15) (.call 15 true [] (.c (.clo sSmallName [])) [(.t 14)]),
    .pick 16 (.t 12) (.t 15) (.c (.d (.b false))),
    .mv 17 (.t 16),
    .gd 17 true (some 18) (.fa 18 (.t 1) 2),
    .gd 17 true (some 19) (.ld 19 1 false (.t 18)),
    .kill [12, 14, 15, 16, 18],
    .gd 17 true (some 20) (.lns 20 (.t 19)),
    .gd 17 true (some 21) (.bin 21 .leq .num (.t 20) (.c (.d (.i .i64 20)))),
    .pick 22 (.t 17) (.t 21) (.c (.d (.b false))),
    .mv 23 (.t 22),
    .kill [17, 19, 20, 21, 22],
    .gd 23 true (some 24) (.fa 24 (.t 1) 2),
    .gd 23 true (some 25) (.ld 25 1 false (.t 24)),
    .gd 23 true (some 26) (.call 26 true [] (.c (.clo sPlain [])) [(.t 25)]),
    .pick 27 (.t 23) (.t 26) (.c (.d (.b false))),
    .kill [1, 23, 24, 25, 26],
    .mv 2 (.t 27),
    .keep [2],
    .drop [65]])
  (.ret))⟩
/-- live: [0, 3, 5, 6, 7]; objects: [67, 69] -/
def sl12One_l0 : C :=
  .seq (.seq (.r [.mv 11 (.t 7),
      .mv 12 (.t 0),
      .len 13 (.t 12),
      .bin 14 .lss .num (.t 11) (.t 13),
      .kill [11, 12, 13]])
    (.cond (.t 14)
      (.pre [.kill [14]] (.skip))
      (.pre [.kill [0, 7, 14]] (.ex 0))))
    (.seq (.blk 1 (.seq (.seq (.post (.r [.mv 17 (.t 6),
      .not 18 (.t 17),
      .mv 19 (.t 18),
      .gd 19 true (some 20) (.mv 20 (.t 0)),
      .gd 19 true (some 21) (.mv 21 (.t 7)),
      .gd 19 true (some 22) (.ia 22 3 (.t 20) (.t 21)),
      .gd 19 true (some 23) (.ld 23 3 true (.t 22)),
      .gd 19 true (some 24) (.fa 24 (.t 3) 1),
      .gd 19 true (some 25) (.ld 25 3 true (.t 24)),
      .gd 19 true (some 26) (.call 26 true [] (.c (.clo sl10LessProp [])) [(.t 23), (.t 25)]),
      .gd 19 true (some 27) (.not 27 (.t 26)),
      .pick 28 (.t 19) (.t 27) (.c (.d (.b false)))]) [.keep [28, 7, 6, 5, 3, 0]])
    (.cond (.t 28)
      (.pre [.kill [6, 28]] (.seq (.r [.mv 29 (.t 5),
        .fa 30 (.t 3) 1,
        .ld 31 3 true (.t 30),
        .bs 32 TProp false 1 [.d (.s []), .d (.s []), .d (.s [])] [(0, (.t 31))],
        .app 33 TProp false 48 (.t 29) (.t 32),
        .kill [5, 29, 30, 31, 32],
        .mv 5 (.t 33),
        .ren 97 69,
        .keep [7, 5, 3, 0],
        .drop [96, 97]])
      (.r [.mv 6 (.c (.d (.b true)))])))
      (.pre [.kill [28]] (.skip))))
    (.seq (.post (.r [.mv 34 (.t 0),
      .mv 35 (.t 7),
      .ia 36 3 (.t 34) (.t 35),
      .fa 37 (.t 36) 0,
      .ld 38 1 false (.t 37),
      .fa 39 (.t 3) 1,
      .fa 40 (.t 39) 0,
      .ld 41 1 false (.t 40),
      .bin 42 .neq .num (.t 38) (.t 41),
      .mv 43 (.t 42),
      .gd 43 false (some 44) (.mv 44 (.t 0)),
      .gd 43 false (some 45) (.mv 45 (.t 7)),
      .gd 43 false (some 46) (.ia 46 3 (.t 44) (.t 45)),
      .gd 43 false (some 47) (.fa 47 (.t 46) 1),
      .gd 43 false (some 48) (.ld 48 1 false (.t 47)),
      .gd 43 false (some 49) (.fa 49 (.t 3) 1),
      .gd 43 false (some 50) (.fa 50 (.t 49) 1),
      .gd 43 false (some 51) (.ld 51 1 false (.t 50)),
      .gd 43 false (some 52) (.bin 52 .neq .num (.t 48) (.t 51)),
      .pick 53 (.t 43) (.c (.d (.b true))) (.t 52)]) [.keep [53, 7, 6, 5, 3, 0]])
    (.cond (.t 53)
      (.pre [.kill [53]] (.r [.mv 54 (.t 5),
        .mv 55 (.t 0),
        .mv 56 (.t 7),
        .ia 57 3 (.t 55) (.t 56),
        .ld 58 3 true (.t 57),
        .bs 59 TProp false 1 [.d (.s []), .d (.s []), .d (.s [])] [(0, (.t 58))],
        .kill [5, 55, 56, 57, 58],
        .app 60 TProp false 48 (.t 54) (.t 59),
        .mv 5 (.t 60),
        .ren 124 69,
        .keep [7, 6, 5, 3, 0],
        .drop [123, 124]]))
      (.pre [.kill [53]] (.skip))))))
    (.r [.mv 15 (.t 7),
      .bin 16 .add .num (.t 15) (.c (.d (.i .i64 1))),
      .mv 7 (.t 16),
      .kill [15, 16]]))
def sl12One_m : Fn := ⟨2, [.t 4], false,
  .seq (.r [.bx 3 TSet false (.t 1),
    .mv 4 (.c (.nil TProp)),
    .opn 4 4 false,
    .kill [1, 4],
    .drop [68]])
  (.seq (.r [.bs 8 TProp false 0 [.d (.s []), .d (.s []), .d (.s [])] [],
    .mv 5 (.t 8),
    .ren 72 69,
    .kill [8],
    .drop [72]])
  (.seq (.r [.fa 9 (.t 3) 0,
    .ld 10 1 false (.t 9),
    .mv 6 (.t 10),
    .kill [9, 10]])
  (.seq (.seq (.r [.mv 7 (.c (.d (.i .i64 0)))])
  (.blk 0 (.pre [.keep [7, 6, 5, 3, 0]] (.loop sl12One_l0))))
  (.seq (.seq (.r [.mv 61 (.t 6),
    .not 62 (.t 61),
    .kill [6, 61]])
  (.cond (.t 62)
    (.pre [.kill [62]] (.r [.mv 63 (.t 5),
      .fa 64 (.t 3) 1,
      .ld 65 3 true (.t 64),
      .bs 66 TProp false 1 [.d (.s []), .d (.s []), .d (.s [])] [(0, (.t 65))],
      .app 67 TProp false 48 (.t 63) (.t 66),
      .kill [3, 5, 63, 64, 65, 66],
      .mv 5 (.t 67),
      .ren 131 69,
      .keep [5],
      .drop [67, 130, 131]]))
    (.pre [.keep [5], .drop [67]] (.skip))))
  (.seq (.r [.mv 68 (.t 5),
    .mv 4 (.t 68),
    .ren 69 68,
    .keep [4],
    .drop [69]])
  (.ret))))))⟩
def iin_m : Fn := ⟨3, [.t 6], false,
  .seq (.r [.mv 6 (.c (.d (.b false))),
    .kill [6]])
  (.seq (.r [.mv 7 (.t 0),
    .mv 8 (.t 1),
    .bin 9 .geq .num (.t 7) (.t 8),
    .mv 10 (.t 9),
    .gd 10 true (some 11) (.mv 11 (.t 0)),
    .kill [0, 1, 7, 8, 9],
    .gd 10 true (some 12) (.mv 12 (.t 2)),
    .gd 10 true (some 13) (.bin 13 .leq .num (.t 11) (.t 12)),
    .pick 14 (.t 10) (.t 13) (.c (.d (.b false))),
    .kill [2, 10, 11, 12, 13],
    .mv 6 (.t 14),
    .keep [6]])
  (.ret))⟩
/-- live: [0, 5, 6, 7]; objects: [] -/
def iPathOk_l0 : C :=
  .seq (.r [.bin 8 .lss .num (.t 7) (.t 6)])
    (.seq (.cond (.t 8)
      (.pre [.kill [8]] (.skip))
      (.pre [.keep [0]] (.ex 0)))
    (.seq (.blk 1 (.seq (.r [.ia 9 1 (.t 5) (.t 7),
      .ld 10 1 false (.t 9),
      .mv 4 (.t 10),
      .kill [9, 10]])
    (.seq (.r [.mv 11 (.t 4),
      .call 12 true [] (.c (.clo iNameOk [])) [(.t 11)],
      .not 13 (.t 12),
      .kill [4, 11, 12]])
    (.cond (.t 13)
      (.pre [.keep []] (.seq (.r [.mv 2 (.c (.d (.b false)))])
      (.ret)))
      (.pre [.kill [13]] (.skip))))))
    (.r [.bin 14 .add .num (.t 7) (.c (.d (.i .i64 1))),
      .mv 7 (.t 14),
      .kill [14]])))
def iPathOk_m : Fn := ⟨1, [.t 2], false,
  .seq (.r [.mv 2 (.c (.d (.b false))),
    .kill [2]])
  (.seq (.seq (.r [.mv 5 (.t 0),
    .len 6 (.t 5),
    .mv 7 (.c (.d (.i .i64 0)))])
  (.blk 0 (.pre [.keep [7, 6, 5, 0]] (.loop iPathOk_l0))))
  (.seq (.r [.mv 15 (.t 0),
    .len 16 (.t 15),
    .bin 17 .leq .num (.t 16) (.c (.d (.i .i64 4))),
    .mv 2 (.t 17),
    .keep [2]])
  (.ret)))⟩
def icopyPath_m : Fn := ⟨1, [.t 2], false,
  .seq (.r [.mv 2 (.c (.nil .str)),
    .opn 2 2 false,
    .kill [2],
    .drop [66]])
  (.seq (.r [.mv 3 (.t 0),
    .app 4 .str false 16 (.c (.nil .str)) (.t 3),
    .mv 2 (.t 4),
    .ren 68 66,
    .keep [2],
    .drop [68]])
  (.ret))⟩
def sMakeColl_m : Fn := ⟨3, [.t 6, .t 7], false,
  .seq (.r [.mv 6 (.c (.nil TRes)),
    .opn 6 6 false,
    .mv 7 (.c (.d (.i .i64 0))),
    .kill [6, 7],
    .drop [70]])
  (.seq (.r [.mv 9 (.t 0),
    .mv 10 (.t 1),
    .mv 11 (.t 2),
    .call 12 true [] (.c (.clo sl11May [])) [(.t 9), (.t 10), (.t 11)],
    .mv 8 (.t 12),
    .kill [9, 10, 11, 12]])
  (.seq (.blk 0 (.seq (.r [.mv 14 (.t 8),
    .bin 15 .neq .num (.t 14) (.c (.d (.i .i64 0))),
    .mv 13 (.t 15),
    .kill [14, 15]])
  (.cond (.t 13)
    (.pre [.kill [13]] (.skip))
    (.pre [.kill [13]] (.seq (.r [.mv 17 (.t 1),
      .len 18 (.t 17),
      .bin 19 .eql .num (.t 18) (.c (.d (.i .i64 0))),
      .mv 20 (.t 19),
      .gd 20 false (some 21) (.mv 21 (.t 0)),
      .gd 20 false (some 22) (.mv 22 (.t 1)),
      .gd 20 false (some 23) (.call 23 true [] (.c (.clo sFindRes [])) [(.t 21), (.t 22)]),
      .kill [17, 18, 19, 21, 22],
      .gd 20 false (some 24) (.bin 24 .geq .num (.t 23) (.c (.d (.i .i64 0)))),
      .pick 25 (.t 20) (.c (.d (.b true))) (.t 24),
      .mv 16 (.t 25),
      .keep [16, 8, 2, 1, 0]])
    (.cond (.t 16)
      (.pre [.kill [8, 16]] (.r [.mv 8 (.c (.d (.i .i64 405)))]))
      (.pre [.kill [16]] (.seq (.r [.mv 27 (.t 0),
        .mv 28 (.t 1),
        .call 29 true [] (.c (.clo sAbove [])) [(.t 28)],
        .call 30 true [] (.c (.clo sIsColl [])) [(.t 27), (.t 29)],
        .not 31 (.t 30),
        .mv 26 (.t 31),
        .kill [27, 28, 29, 30, 31]])
      (.cond (.t 26)
        (.pre [.kill [8, 26]] (.r [.mv 8 (.c (.d (.i .i64 409)))]))
        (.pre [.kill [26]] (.seq (.r [.mv 33 (.t 0),
          .len 34 (.t 33),
          .bin 35 .geq .num (.t 34) (.c (.d (.i .i64 12))),
          .mv 32 (.t 35),
          .kill [33, 34, 35]])
        (.cond (.t 32)
          (.pre [.kill [8, 32]] (.r [.mv 8 (.c (.d (.i .i64 507)))]))
          (.pre [.kill [32]] (.skip))))))))))))))
  (.seq (.seq (.r [.mv 36 (.t 8),
    .bin 37 .neq .num (.t 36) (.c (.d (.i .i64 0))),
    .kill [36]])
  (.cond (.t 37)
    (.pre [.keep [8, 0]] (.seq (.r [.mv 38 (.t 0),
      .call 39 false [] (.c (.clo sl10CopyAll [])) [(.t 38)],
      .mv 40 (.t 8),
      .mv 6 (.t 39),
      .ren 40064 70,
      .mv 7 (.t 40),
      .keep [7, 6],
      .drop [40064]])
    (.ret)))
    (.pre [.kill [8, 37]] (.skip))))
  (.seq (.r [.mv 41 (.t 0),
    .mv 42 (.t 1),
    .mv 43 (.t 2),
    .bd 44 [.nil .str, .d (.b false), .d (.s []), .d (.i .i64 0), .nil TProp] [(0, 1, (.t 42)), (1, 1, (.c (.d (.b true)))), (3, 1, (.t 43))],
    .kill [0, 1, 2, 42, 43],
    .call 45 false [] (.c (.clo sl11Put [])) [(.t 41), (.t 44)],
    .mv 6 (.t 45),
    .ren 46064 70,
    .mv 7 (.c (.d (.i .i64 201))),
    .keep [7, 6],
    .drop [46064]])
  (.ret)))))⟩
def sPutFile_m : Fn := ⟨4, [.t 8, .t 9], false,
  .seq (.r [.mv 8 (.c (.nil TRes)),
    .opn 8 8 false,
    .mv 9 (.c (.d (.i .i64 0))),
    .kill [8, 9],
    .drop [72]])
  (.seq (.r [.mv 13 (.t 0),
    .mv 14 (.t 1),
    .mv 15 (.t 3),
    .call 16 true [] (.c (.clo sl11May [])) [(.t 13), (.t 14), (.t 15)],
    .mv 10 (.t 16),
    .kill [13, 14, 15, 16]])
  (.seq (.r [.mv 17 (.t 0),
    .mv 18 (.t 1),
    .call 19 true [] (.c (.clo sFindRes [])) [(.t 17), (.t 18)],
    .mv 11 (.t 19),
    .kill [17, 18, 19]])
  (.seq (.blk 0 (.seq (.r [.mv 21 (.t 10),
    .bin 22 .neq .num (.t 21) (.c (.d (.i .i64 0))),
    .mv 20 (.t 22),
    .kill [21, 22]])
  (.cond (.t 20)
    (.pre [.kill [20]] (.skip))
    (.pre [.kill [20]] (.seq (.r [.mv 24 (.t 0),
      .mv 25 (.t 1),
      .call 26 true [] (.c (.clo sIsColl [])) [(.t 24), (.t 25)],
      .mv 23 (.t 26),
      .kill [24, 25, 26]])
    (.cond (.t 23)
      (.pre [.kill [10, 23]] (.r [.mv 10 (.c (.d (.i .i64 405)))]))
      (.pre [.kill [23]] (.seq (.r [.mv 28 (.t 0),
        .mv 29 (.t 1),
        .call 30 true [] (.c (.clo sAbove [])) [(.t 29)],
        .call 31 true [] (.c (.clo sIsColl [])) [(.t 28), (.t 30)],
        .not 32 (.t 31),
        .mv 27 (.t 32),
        .kill [28, 29, 30, 31, 32]])
      (.cond (.t 27)
        (.pre [.kill [10, 27]] (.r [.mv 10 (.c (.d (.i .i64 409)))]))
        (.pre [.kill [27]] (.seq (.r [.mv 34 (.t 2),
          .lns 35 (.t 34),
          .bin 36 .gtr .num (.t 35) (.c (.d (.i .i64 200))),
          .mv 33 (.t 36),
          .kill [34, 35, 36]])
        (.cond (.t 33)
          (.pre [.kill [10, 33]] (.r [.mv 10 (.c (.d (.i .i64 413)))]))
          (.pre [.kill [33]] (.seq (.r [.mv 38 (.t 11),
            .bin 39 .lss .num (.t 38) (.c (.d (.i .i64 0))),
            .mv 40 (.t 39),
            .gd 40 true (some 41) (.mv 41 (.t 0)),
            .gd 40 true (some 42) (.len 42 (.t 41)),
            .gd 40 true (some 43) (.bin 43 .geq .num (.t 42) (.c (.d (.i .i64 12)))),
            .pick 44 (.t 40) (.t 43) (.c (.d (.b false))),
            .kill [38, 39, 40, 41, 42, 43],
            .mv 37 (.t 44),
            .kill [38, 39, 40, 41, 42, 43, 44]])
          (.cond (.t 37)
            (.pre [.kill [10, 37]] (.r [.mv 10 (.c (.d (.i .i64 507)))]))
            (.pre [.kill [37]] (.skip)))))))))))))))))
  (.seq (.seq (.r [.mv 45 (.t 10),
    .bin 46 .neq .num (.t 45) (.c (.d (.i .i64 0))),
    .kill [45]])
  (.cond (.t 46)
    (.pre [.keep [10, 0]] (.seq (.r [.mv 47 (.t 0),
      .call 48 false [] (.c (.clo sl10CopyAll [])) [(.t 47)],
      .mv 49 (.t 10),
      .mv 8 (.t 48),
      .ren 49064 72,
      .mv 9 (.t 49),
      .keep [9, 8],
      .drop [49064]])
    (.ret)))
    (.pre [.kill [10, 46]] (.skip))))
  (.seq (.r [.mv 50 (.t 1),
    .mv 51 (.t 2),
    .mv 52 (.t 3),
    .bd 53 [.nil .str, .d (.b false), .d (.s []), .d (.i .i64 0), .nil TProp] [(0, 1, (.t 50)), (2, 1, (.t 51)), (3, 1, (.t 52))],
    .kill [1, 2, 3, 50, 51, 52],
    .al 12 TRes true,
    .st 5 (.t 12) (.t 53),
    .keep [12, 11, 0]])
  (.seq (.seq (.r [.mv 54 (.t 11),
    .bin 55 .lss .num (.t 54) (.c (.d (.i .i64 0))),
    .kill [54]])
  (.cond (.t 55)
    (.pre [.kill [11, 55]] (.seq (.r [.mv 56 (.t 0),
      .ld 57 5 true (.t 12),
      .call 58 false [] (.c (.clo sl11Put [])) [(.t 56), (.t 57)],
      .mv 8 (.t 58),
      .ren 59064 72,
      .kill [0, 12, 56, 57, 58],
      .mv 9 (.c (.d (.i .i64 201))),
      .keep [9, 8],
      .drop [76, 59064]])
    (.ret)))
    (.pre [.kill [55]] (.skip))))
  (.seq (.r [.mv 59 (.t 0),
    .mv 60 (.t 11),
    .ia 61 5 (.t 59) (.t 60),
    .fa 62 (.t 61) 4,
    .ld 63 1 false (.t 62),
    .kill [11, 59, 60, 61, 62],
    .fa 64 (.t 12) 4,
    .st 1 (.t 64) (.t 63),
    .keep [12, 0]])
  (.seq (.r [.mv 65 (.t 0),
    .ld 66 5 true (.t 12),
    .call 67 false [] (.c (.clo sl11Put [])) [(.t 65), (.t 66)],
    .mv 8 (.t 67),
    .ren 68064 72,
    .kill [0, 12, 65, 66, 67],
    .mv 9 (.c (.d (.i .i64 204))),
    .keep [9, 8],
    .drop [76, 68064]])
  (.ret)))))))))⟩
/-- live: [0, 3, 4]; objects: [0, 67] -/
def sl10Props_l0 : C :=
  .seq (.seq (.r [.mv 8 (.t 4),
      .bin 9 .gtr .num (.t 8) (.c (.d (.i .i64 0))),
      .kill [8]])
    (.cond (.t 9)
      (.pre [.kill [9]] (.skip))
      (.pre [.keep [3]] (.ex 0))))
    (.seq (.blk 1 (.r [.mv 13 (.t 3),
      .mv 14 (.t 0),
      .call 15 true [0] (.c (.clo sl10OneProp [])) [(.t 14)],
      .bd 16 [.d (.b false), .d (.s []), .d (.s []), .d (.s [])] [(1, 3, (.t 15))],
      .bs 17 TSet false 1 [.d (.b false), .d (.s []), .d (.s []), .d (.s [])] [(0, (.t 16))],
      .call 18 false [] (.c (.clo sSetProps [])) [(.t 13), (.t 17)],
      .kill [3, 13, 14, 15, 16, 17],
      .mv 12 (.t 18),
      .ext 19 (.t 12) 0,
      .ext 20 (.t 12) 1,
      .mv 3 (.t 19),
      .ren 19064 67,
      .keep [4, 3, 0],
      .drop [81, 19064]]))
    (.r [.mv 10 (.t 4),
      .bin 11 .sub .num (.t 10) (.c (.d (.i .i64 1))),
      .mv 4 (.t 11),
      .kill [10, 11]]))
def sl10Props_m : Fn := ⟨1, [.t 2], false,
  .seq (.r [.mv 2 (.c (.nil TProp)),
    .opn 2 2 false,
    .kill [2],
    .drop [66]])
  (.seq (.r [.bs 5 TProp false 0 [.d (.s []), .d (.s []), .d (.s [])] [],
    .mv 3 (.t 5),
    .ren 69 67,
    .kill [5],
    .drop [69]])
  (.seq (.seq (.r [.mv 6 (.t 0),
    .call 7 true [0] (.c (.clo sl1Below [])) [(.t 6), (.c (.d (.i .i64 3)))],
    .mv 4 (.t 7),
    .kill [6, 7]])
  (.blk 0 (.pre [.keep [4, 3, 0]] (.loop sl10Props_l0))))
  (.seq (.r [.mv 21 (.t 3),
    .mv 2 (.t 21),
    .ren 67 66,
    .keep [2],
    .drop [67]])
  (.ret))))⟩
def sl1Byte_m : Fn := ⟨1, [.t 2], false,
  .seq (.r [.mv 2 (.c (.d (.i .i64 0))),
    .kill [2]])
  (.seq (.r [.mv 4 (.t 0),
    .mv 5 (.t 0),
    .nchk 6 (.t 5),
    .fa 7 (.t 6) 2,
    .ld 8 1 false (.t 7),
    .bin 9 .mul .num (.t 8) (.c (.d (.i .i64 6364136223846793005))),
    .bin 10 .add .num (.t 9) (.c (.d (.i .i64 1442695040888963407))),
    .kill [5, 6, 7, 8, 9],
    .nchk 11 (.t 4),
    .fa 12 (.t 11) 2,
    .st 1 (.t 12) (.t 10),
    .keep [0]])
  (.seq (.post (.r [.mv 13 (.t 0),
    .nchk 14 (.t 13),
    .fa 15 (.t 14) 2,
    .ld 16 1 false (.t 15),
    .bin 17 .shr .num (.t 16) (.c (.d (.i .u64 33))),
    .mv 18 (.t 0),
    .nchk 19 (.t 18),
    .fa 20 (.t 19) 2,
    .ld 21 1 false (.t 20),
    .bin 22 .shr .num (.t 21) (.c (.d (.i .u64 47))),
    .bin 23 .xor .num (.t 17) (.t 22),
    .bin 24 .and .num (.t 23) (.c (.d (.i .i64 255))),
    .mv 3 (.t 24)]) [.keep [3, 0]])
  (.seq (.seq (.post (.r [.mv 25 (.t 0),
    .nchk 26 (.t 25),
    .fa 27 (.t 26) 1,
    .ld 28 1 false (.t 27),
    .mv 29 (.t 0),
    .nchk 30 (.t 29),
    .fa 31 (.t 30) 0,
    .ld 32 1 false (.t 31),
    .len 33 (.t 32),
    .bin 34 .lss .num (.t 28) (.t 33)]) [.keep [34, 3, 0]])
  (.cond (.t 34)
    (.pre [.kill [34]] (.seq (.post (.r [.mv 35 (.t 3),
      .mv 36 (.t 0),
      .nchk 37 (.t 36),
      .fa 38 (.t 37) 0,
      .ld 39 1 false (.t 38),
      .mv 40 (.t 0),
      .nchk 41 (.t 40),
      .fa 42 (.t 41) 1,
      .ld 43 1 false (.t 42),
      .ia 44 1 (.t 39) (.t 43),
      .ld 45 1 false (.t 44),
      .cvi 46 .i64 (.t 45),
      .bin 47 .add .num (.t 35) (.t 46),
      .bin 48 .and .num (.t 47) (.c (.d (.i .i64 255))),
      .mv 3 (.t 48)]) [.keep [3, 0]])
    (.r [.mv 49 (.t 0),
      .mv 50 (.t 0),
      .nchk 51 (.t 50),
      .fa 52 (.t 51) 1,
      .ld 53 1 false (.t 52),
      .bin 54 .add .num (.t 53) (.c (.d (.i .i64 1))),
      .kill [0, 50, 51, 52, 53],
      .nchk 55 (.t 49),
      .fa 56 (.t 55) 1,
      .st 1 (.t 56) (.t 54),
      .keep [3]])))
    (.pre [.keep [3]] (.skip))))
  (.seq (.r [.mv 57 (.t 3),
    .mv 2 (.t 57),
    .keep [2]])
  (.ret)))))⟩
/-- live: [0, 3]; objects: [] -/
def iPlain_l0 : C :=
  .seq (.seq (.r [.mv 4 (.t 3),
      .mv 5 (.t 0),
      .lns 6 (.t 5),
      .bin 7 .lss .num (.t 4) (.t 6),
      .kill [4, 5, 6]])
    (.cond (.t 7)
      (.pre [.kill [7]] (.skip))
      (.pre [.keep []] (.ex 0))))
    (.seq (.blk 1 (.seq (.r [.mv 10 (.t 0),
      .mv 11 (.t 3),
      .ix 12 (.t 10) (.t 11),
      .call 13 true [] (.c (.clo iisPlain [])) [(.t 12)],
      .not 14 (.t 13),
      .keep [14, 3, 0]])
    (.cond (.t 14)
      (.pre [.keep []] (.seq (.r [.mv 2 (.c (.d (.b false)))])
      (.ret)))
      (.pre [.kill [14]] (.skip)))))
    (.r [.mv 8 (.t 3),
      .bin 9 .add .num (.t 8) (.c (.d (.i .i64 1))),
      .mv 3 (.t 9),
      .kill [8, 9]]))
def iPlain_m : Fn := ⟨1, [.t 2], false,
  .seq (.r [.mv 2 (.c (.d (.b false))),
    .kill [2]])
  (.seq (.seq (.r [.mv 3 (.c (.d (.i .i64 0)))])
  (.blk 0 (.pre [.keep [3, 0]] (.loop iPlain_l0))))
  (.seq (.r [.mv 2 (.c (.d (.b true)))])
  (.ret)))⟩
/-- live: [0, 3]; objects: [] -/
def iSmallName_l0 : C :=
  .seq (.seq (.r [.mv 4 (.t 3),
      .mv 5 (.t 0),
      .lns 6 (.t 5),
      .bin 7 .lss .num (.t 4) (.t 6),
      .kill [4, 5, 6]])
    (.cond (.t 7)
      (.pre [.kill [7]] (.skip))
      (.pre [.keep [0]] (.ex 0))))
    (.seq (.blk 1 (.seq (.r [.mv 10 (.t 0),
      .mv 11 (.t 3),
      .ix 12 (.t 10) (.t 11),
      .call 13 true [] (.c (.clo iisSmall [])) [(.t 12)],
      .not 14 (.t 13),
      .mv 15 (.t 14),
      .kill [10, 11, 12, 13, 14],
      .gd 15 true (some 16) (.mv 16 (.t 3)),
      .gd 15 true (some 17) (.bin 17 .eql .num (.t 16) (.c (.d (.i .i64 0)))),
      .gd 15 true (some 18) (.mv 18 (.t 17)),
      .gd 18 false (some 19) (.mv 19 (.t 0)),
      .gd 18 false (some 20) (.mv 20 (.t 3)),
      .gd 18 false (some 21) (.ix 21 (.t 19) (.t 20)),
      .gd 18 false (some 22) (.call 22 true [] (.c (.clo iisDigit [])) [(.t 21)]),
      .kill [16, 17, 19, 20, 21],
      .gd 18 false (some 23) (.not 23 (.t 22)),
      .gd 18 false (some 24) (.mv 24 (.t 23)),
      .gd 24 true (some 25) (.mv 25 (.t 0)),
      .gd 24 true (some 26) (.mv 26 (.t 3)),
      .gd 24 true (some 27) (.ix 27 (.t 25) (.t 26)),
      .gd 24 true (some 28) (.bin 28 .neq .num (.t 27) (.c (.d (.u 45)))),
      .kill [22, 23, 25, 26, 27],
      .gd 18 false (some 29) (.pick 29 (.t 24) (.t 28) (.c (.d (.b false)))),
      .gd 15 true (some 30) (.pick 30 (.t 18) (.c (.d (.b true))) (.t 29)),
      .pick 31 (.t 15) (.t 30) (.c (.d (.b false))),
      .keep [31, 3, 0]])
    (.cond (.t 31)
      (.pre [.keep []] (.seq (.r [.mv 2 (.c (.d (.b false)))])
      (.ret)))
      (.pre [.kill [31]] (.skip)))))
    (.r [.mv 8 (.t 3),
      .bin 9 .add .num (.t 8) (.c (.d (.i .i64 1))),
      .mv 3 (.t 9),
      .kill [8, 9]]))
def iSmallName_m : Fn := ⟨1, [.t 2], false,
  .seq (.r [.mv 2 (.c (.d (.b false))),
    .kill [2]])
  (.seq (.seq (.r [.mv 3 (.c (.d (.i .i64 0)))])
  (.blk 0 (.pre [.keep [3, 0]] (.loop iSmallName_l0))))
  (.seq (.r [.mv 32 (.t 0),
    .lns 33 (.t 32),
    .call 34 true [] (.c (.clo iin [])) [(.t 33), (.c (.d (.i .i64 1))), (.c (.d (.i .i64 20)))],
    .mv 2 (.t 34),
    .keep [2]])
  (.ret)))⟩
def ilessProp_m : Fn := ⟨2, [.t 4], false,
  .seq (.r [.bx 2 TProp false (.t 0),
    .bx 3 TProp false (.t 1),
    .mv 4 (.c (.d (.b false))),
    .keep [3, 2]])
  (.seq (.r [.fa 5 (.t 2) 0,
    .ld 6 1 false (.t 5),
    .fa 7 (.t 3) 0,
    .ld 8 1 false (.t 7),
    .bin 9 .lss .num (.t 6) (.t 8),
    .mv 10 (.t 9),
    .kill [5, 6, 7, 8, 9],
    .gd 10 false (some 11) (.fa 11 (.t 2) 0),
    .gd 10 false (some 12) (.ld 12 1 false (.t 11)),
    .gd 10 false (some 13) (.fa 13 (.t 3) 0),
    .gd 10 false (some 14) (.ld 14 1 false (.t 13)),
    .gd 10 false (some 15) (.bin 15 .eql .num (.t 12) (.t 14)),
    .gd 10 false (some 16) (.mv 16 (.t 15)),
    .kill [11, 12, 13, 14, 15],
    .gd 16 true (some 17) (.fa 17 (.t 2) 1),
    .gd 16 true (some 18) (.ld 18 1 false (.t 17)),
    .gd 16 true (some 19) (.fa 19 (.t 3) 1),
    .gd 16 true (some 20) (.ld 20 1 false (.t 19)),
    .gd 16 true (some 21) (.bin 21 .lss .num (.t 18) (.t 20)),
    .kill [2, 3, 17, 18, 19, 20],
    .gd 10 false (some 22) (.pick 22 (.t 16) (.t 21) (.c (.d (.b false)))),
    .pick 23 (.t 10) (.c (.d (.b true))) (.t 22),
    .mv 4 (.t 23),
    .keep [4],
    .drop [66, 67]])
  (.ret))⟩
/-- live: [0, 3]; objects: [] -/
def sNameOk_l0 : C :=
  .seq (.seq (.r [.mv 4 (.t 3),
      .mv 5 (.t 0),
      .lns 6 (.t 5),
      .bin 7 .lss .num (.t 4) (.t 6),
      .kill [4, 5, 6]])
    (.cond (.t 7)
      (.pre [.kill [7]] (.skip))
      (.pre [.keep [0]] (.ex 0))))
    (.seq (.blk 1 (.seq (.r [.mv 10 (.t 0),
      .mv 11 (.t 3),
      .ix 12 (.t 10) (.t 11),
      .bin 13 .eql .num (.t 12) (.c (.d (.u 47))),
      .kill [10, 11, 12]])
    (.cond (.t 13)
      (.pre [.keep []] (.seq (.r [.mv 2 (.c (.d (.b false)))])
      (.ret)))
      (.pre [.kill [13]] (.skip)))))
    (.r [.mv 8 (.t 3),
      .bin 9 .add .num (.t 8) (.c (.d (.i .i64 1))),
      .mv 3 (.t 9),
      .kill [8, 9]]))
def sNameOk_m : Fn := ⟨1, [.t 2], false,
  .seq (.r [.mv 2 (.c (.d (.b false))),
    .kill [2]])
  (.seq (.seq (.r [.mv 3 (.c (.d (.i .i64 0)))])
  (.blk 0 (.pre [.keep [3, 0]] (.loop sNameOk_l0))))
  (.seq (.r [.mv 14 (.t 0),
    .lns 15 (.t 14),
    .call 16 true [] (.c (.clo sl1In [])) [(.t 15), (.c (.d (.i .i64 1))), (.c (.d (.i .i64 8)))],
    .mv 17 (.t 16),
    .gd 17 true (some 18) (.mv 18 (.t 0)),
    .gd 17 true (some 19) (.call 19 true [] (.c (.clo sPlain [])) [(.t 18)]),
    .pick 20 (.t 17) (.t 19) (.c (.d (.b false))),
    .kill [14, 15, 16, 17, 18, 19],
    .mv 21 (.t 20),
    .gd 21 true (some 22) (.mv 22 (.t 0)),
    .gd 21 true (some 23) (.bin 23 .neq .num (.t 22) (.c (.d (.s [46])))),
    .pick 24 (.t 21) (.t 23) (.c (.d (.b false))),
    .mv 25 (.t 24),
    .kill [20, 21, 22, 23, 24],
    .gd 25 true (some 26) (.mv 26 (.t 0)),
    .gd 25 true (some 27) (.bin 27 .neq .num (.t 26) (.c (.d (.s [46, 46])))),
    .pick 28 (.t 25) (.t 27) (.c (.d (.b false))),
    .mv 2 (.t 28),
    .keep [2]])
  (.ret)))⟩
def sl10LessProp_m : Fn := ⟨2, [.t 4], false,
  .seq (.r [.bx 2 TProp false (.t 0),
    .bx 3 TProp false (.t 1),
    .mv 4 (.c (.d (.b false))),
    .keep [3, 2]])
  (.seq (.seq (.r [.fa 5 (.t 2) 0,
    .ld 6 1 false (.t 5),
    .fa 7 (.t 3) 0,
    .ld 8 1 false (.t 7),
    .bin 9 .neq .num (.t 6) (.t 8),
    .keep [9, 3, 2]])
  (.cond (.t 9)
    (.pre [.kill [9]] (.seq (.r [.fa 10 (.t 2) 0,
      .ld 11 1 false (.t 10),
      .fa 12 (.t 3) 0,
      .ld 13 1 false (.t 12),
      .bin 14 .lss .num (.t 11) (.t 13),
      .kill [2, 3, 10, 11, 12, 13],
      .mv 4 (.t 14),
      .keep [4],
      .drop [66, 67]])
    (.ret)))
    (.pre [.kill [9]] (.skip))))
  (.seq (.r [.fa 15 (.t 2) 1,
    .ld 16 1 false (.t 15),
    .fa 17 (.t 3) 1,
    .ld 18 1 false (.t 17),
    .bin 19 .lss .num (.t 16) (.t 18),
    .kill [2, 3, 15, 16, 17, 18],
    .mv 4 (.t 19),
    .keep [4],
    .drop [66, 67]])
  (.ret)))⟩
/-- live: [0, 3]; objects: [] -/
def sPlain_l0 : C :=
  .seq (.seq (.r [.mv 4 (.t 3),
      .mv 5 (.t 0),
      .lns 6 (.t 5),
      .bin 7 .lss .num (.t 4) (.t 6),
      .kill [4, 5, 6]])
    (.cond (.t 7)
      (.pre [.kill [7]] (.skip))
      (.pre [.keep []] (.ex 0))))
    (.seq (.blk 1 (.seq (.r [.mv 10 (.t 0),
      .mv 11 (.t 3),
      .ix 12 (.t 10) (.t 11),
      .cvi 13 .i64 (.t 12),
      .call 14 true [] (.c (.clo sl1In [])) [(.t 13), (.c (.d (.i .i64 32))), (.c (.d (.i .i64 126)))],
      .not 15 (.t 14),
      .keep [15, 3, 0]])
    (.cond (.t 15)
      (.pre [.keep []] (.seq (.r [.mv 2 (.c (.d (.b false)))])
      (.ret)))
      (.pre [.kill [15]] (.skip)))))
    (.r [.mv 8 (.t 3),
      .bin 9 .add .num (.t 8) (.c (.d (.i .i64 1))),
      .mv 3 (.t 9),
      .kill [8, 9]]))
def sPlain_m : Fn := ⟨1, [.t 2], false,
  .seq (.r [.mv 2 (.c (.d (.b false))),
    .kill [2]])
  (.seq (.seq (.r [.mv 3 (.c (.d (.i .i64 0)))])
  (.blk 0 (.pre [.keep [3, 0]] (.loop sPlain_l0))))
  (.seq (.r [.mv 2 (.c (.d (.b true)))])
  (.ret)))⟩
/-- live: [0, 3]; objects: [] -/
def sSmallName_l0 : C :=
  .seq (.seq (.r [.mv 4 (.t 3),
      .mv 5 (.t 0),
      .lns 6 (.t 5),
      .bin 7 .lss .num (.t 4) (.t 6),
      .kill [4, 5, 6]])
    (.cond (.t 7)
      (.pre [.kill [7]] (.skip))
      (.pre [.keep [0]] (.ex 0))))
    (.seq (.blk 1 (.seq (.r [.mv 10 (.t 0),
      .mv 11 (.t 3),
      .ix 12 (.t 10) (.t 11),
      .call 13 true [] (.c (.clo sl1Small [])) [(.t 12)],
      .not 14 (.t 13),
      .mv 15 (.t 14),
      .kill [10, 11, 12, 13, 14],
      .gd 15 true (some 16) (.mv 16 (.t 3)),
      .gd 15 true (some 17) (.bin 17 .eql .num (.t 16) (.c (.d (.i .i64 0)))),
      .gd 15 true (some 18) (.mv 18 (.t 17)),
      .gd 18 false (some 19) (.mv 19 (.t 0)),
      .gd 18 false (some 20) (.mv 20 (.t 3)),
      .gd 18 false (some 21) (.ix 21 (.t 19) (.t 20)),
      .gd 18 false (some 22) (.call 22 true [] (.c (.clo sl1Digit [])) [(.t 21)]),
      .kill [16, 17, 19, 20, 21],
      .gd 18 false (some 23) (.not 23 (.t 22)),
      .gd 18 false (some 24) (.mv 24 (.t 23)),
      .gd 24 true (some 25) (.mv 25 (.t 0)),
      .gd 24 true (some 26) (.mv 26 (.t 3)),
      .gd 24 true (some 27) (.ix 27 (.t 25) (.t 26)),
      .gd 24 true (some 28) (.bin 28 .neq .num (.t 27) (.c (.d (.u 45)))),
      .kill [22, 23, 25, 26, 27],
      .gd 18 false (some 29) (.pick 29 (.t 24) (.t 28) (.c (.d (.b false)))),
      .gd 15 true (some 30) (.pick 30 (.t 18) (.c (.d (.b true))) (.t 29)),
      .pick 31 (.t 15) (.t 30) (.c (.d (.b false))),
      .keep [31, 3, 0]])
    (.cond (.t 31)
      (.pre [.keep []] (.seq (.r [.mv 2 (.c (.d (.b false)))])
      (.ret)))
      (.pre [.kill [31]] (.skip)))))
    (.r [.mv 8 (.t 3),
      .bin 9 .add .num (.t 8) (.c (.d (.i .i64 1))),
      .mv 3 (.t 9),
      .kill [8, 9]]))
def sSmallName_m : Fn := ⟨1, [.t 2], false,
  .seq (.r [.mv 2 (.c (.d (.b false))),
    .kill [2]])
  (.seq (.seq (.r [.mv 3 (.c (.d (.i .i64 0)))])
  (.blk 0 (.pre [.keep [3, 0]] (.loop sSmallName_l0))))
  (.seq (.r [.mv 32 (.t 0),
    .lns 33 (.t 32),
    .call 34 true [] (.c (.clo sl1In [])) [(.t 33), (.c (.d (.i .i64 1))), (.c (.d (.i .i64 20)))],
    .mv 2 (.t 34),
    .keep [2]])
  (.ret)))⟩
def iNameOk_m : Fn := ⟨1, [.t 2], false,
  .seq (.r [.mv 2 (.c (.d (.b false))),
    .kill [2]])
  (.seq (.r [.mv 3 (.t 0),
    .lns 4 (.t 3),
    .call 5 true [] (.c (.clo iin [])) [(.t 4), (.c (.d (.i .i64 1))), (.c (.d (.i .i64 8)))],
    .mv 6 (.t 5),
    .gd 6 true (some 7) (.mv 7 (.t 0)),
    .gd 6 true (some 8) (.call 8 true [] (.c (.clo iPlain [])) [(.t 7)]),
    .pick 9 (.t 6) (.t 8) (.c (.d (.b false))),
    .kill [3, 4, 5, 6, 7, 8],
    .mv 10 (.t 9),
    .gd 10 true (some 11) (.mv 11 (.t 0)),
    .gd 10 true (some 12) (.call 12 true [] (.c (.clo x_strings_Contains [])) [(.t 11), (.c (.d (.s [47])))]),
    .gd 10 true (some 13) (.not 13 (.t 12)),
    .pick 14 (.t 10) (.t 13) (.c (.d (.b false))),
    .kill [9, 10, 11, 12, 13],
    .mv 15 (.t 14),
    .gd 15 true (some 16) (.mv 16 (.t 0)),
    .gd 15 true (some 17) (.bin 17 .neq .num (.t 16) (.c (.d (.s [46])))),
    .pick 18 (.t 15) (.t 17) (.c (.d (.b false))),
    .mv 19 (.t 18),
    .kill [14, 15, 16, 17, 18],
    .gd 19 true (some 20) (.mv 20 (.t 0)),
    .gd 19 true (some 21) (.bin 21 .neq .num (.t 20) (.c (.d (.s [46, 46])))),
    .pick 22 (.t 19) (.t 21) (.c (.d (.b false))),
    .mv 2 (.t 22),
    .keep [2]])
  (.ret))⟩
def sl11May_m : Fn := ⟨3, [.t 6], false,
  .seq (.r [.mv 6 (.c (.d (.i .i64 0))),
    .kill [6]])
  (.seq (.blk 0 (.seq (.r [.mv 8 (.t 0),
    .call 9 true [] (.c (.clo sTreeOk [])) [(.t 8)],
    .not 10 (.t 9),
    .mv 7 (.t 10),
    .keep [7, 2, 1]])
  (.cond (.t 7)
    (.pre [.keep []] (.seq (.r [.mv 6 (.c (.d (.i .i64 500)))])
    (.ret)))
    (.pre [.kill [7]] (.seq (.r [.mv 12 (.t 1),
      .call 13 true [] (.c (.clo sPathOk [])) [(.t 12)],
      .not 14 (.t 13),
      .mv 11 (.t 14),
      .keep [11, 2]])
    (.cond (.t 11)
      (.pre [.keep []] (.seq (.r [.mv 6 (.c (.d (.i .i64 400)))])
      (.ret)))
      (.pre [.kill [11]] (.seq (.r [.mv 16 (.t 2),
        .call 17 true [] (.c (.clo sl1In [])) [(.t 16), (.c (.d (.i .i64 0))), (.c (.d (.i .i64 99999)))],
        .not 18 (.t 17),
        .mv 15 (.t 18),
        .keep [15]])
      (.cond (.t 15)
        (.pre [.keep []] (.seq (.r [.mv 6 (.c (.d (.i .i64 507)))])
        (.ret)))
        (.pre [.keep []] (.skip)))))))))))
  (.seq (.r [.mv 6 (.c (.d (.i .i64 0)))])
  (.ret)))⟩
/-- live: [0, 3, 5, 6, 7]; objects: [67, 69] -/
def sl11Put_l0 : C :=
  .seq (.seq (.r [.mv 9 (.t 7),
      .mv 10 (.t 0),
      .len 11 (.t 10),
      .bin 12 .lss .num (.t 9) (.t 11),
      .kill [9, 10, 11]])
    (.cond (.t 12)
      (.pre [.kill [12]] (.skip))
      (.pre [.kill [0, 7, 12]] (.ex 0))))
    (.seq (.blk 1 (.seq (.seq (.post (.r [.mv 15 (.t 6),
      .not 16 (.t 15),
      .mv 17 (.t 16),
      .gd 17 true (some 18) (.mv 18 (.t 0)),
      .gd 17 true (some 19) (.mv 19 (.t 7)),
      .gd 17 true (some 20) (.ia 20 5 (.t 18) (.t 19)),
      .gd 17 true (some 21) (.fa 21 (.t 20) 0),
      .gd 17 true (some 22) (.ld 22 1 false (.t 21)),
      .gd 17 true (some 23) (.fa 23 (.t 3) 0),
      .gd 17 true (some 24) (.ld 24 1 false (.t 23)),
      .gd 17 true (some 25) (.call 25 true [] (.c (.clo sLessPath [])) [(.t 22), (.t 24)]),
      .gd 17 true (some 26) (.not 26 (.t 25)),
      .pick 27 (.t 17) (.t 26) (.c (.d (.b false)))]) [.keep [27, 7, 6, 5, 3, 0]])
    (.cond (.t 27)
      (.pre [.kill [6, 27]] (.seq (.r [.mv 28 (.t 5),
        .ld 29 5 true (.t 3),
        .call 30 false [] (.c (.clo sl10Copy [])) [(.t 29)],
        .bs 31 TRes false 1 [.nil .str, .d (.b false), .d (.s []), .d (.i .i64 0), .nil TProp] [(0, (.t 30))],
        .app 32 TRes false 80 (.t 28) (.t 31),
        .kill [5, 28, 29, 30, 31],
        .mv 5 (.t 32),
        .ren 96 69,
        .keep [7, 5, 3, 0],
        .drop [95, 96, 31064, 31068]])
      (.r [.mv 6 (.c (.d (.b true)))])))
      (.pre [.kill [27]] (.skip))))
    (.seq (.post (.r [.mv 33 (.t 0),
      .mv 34 (.t 7),
      .ia 35 5 (.t 33) (.t 34),
      .fa 36 (.t 35) 0,
      .ld 37 1 false (.t 36),
      .fa 38 (.t 3) 0,
      .ld 39 1 false (.t 38),
      .call 40 true [] (.c (.clo sSamePath [])) [(.t 37), (.t 39)],
      .not 41 (.t 40)]) [.keep [41, 7, 6, 5, 3, 0]])
    (.cond (.t 41)
      (.pre [.kill [41]] (.r [.mv 42 (.t 5),
        .mv 43 (.t 0),
        .mv 44 (.t 7),
        .ia 45 5 (.t 43) (.t 44),
        .ld 46 5 true (.t 45),
        .call 47 false [] (.c (.clo sl10Copy [])) [(.t 46)],
        .kill [5, 43, 44, 45, 46],
        .bs 48 TRes false 1 [.nil .str, .d (.b false), .d (.s []), .d (.i .i64 0), .nil TProp] [(0, (.t 47))],
        .app 49 TRes false 80 (.t 42) (.t 48),
        .mv 5 (.t 49),
        .ren 113 69,
        .keep [7, 6, 5, 3, 0],
        .drop [112, 113, 48064, 48068]]))
      (.pre [.kill [41]] (.skip))))))
    (.r [.mv 13 (.t 7),
      .bin 14 .add .num (.t 13) (.c (.d (.i .i64 1))),
      .mv 7 (.t 14),
      .kill [13, 14]]))
def sl11Put_m : Fn := ⟨2, [.t 4], false,
  .seq (.r [.bx 3 TRes true (.t 1),
    .mv 4 (.c (.nil TRes)),
    .opn 4 4 false,
    .kill [1, 4],
    .drop [68]])
  (.seq (.r [.bs 8 TRes false 0 [.nil .str, .d (.b false), .d (.s []), .d (.i .i64 0), .nil TProp] [],
    .mv 5 (.t 8),
    .ren 72 69,
    .kill [8],
    .drop [72]])
  (.seq (.r [.mv 6 (.c (.d (.b false)))])
  (.seq (.seq (.r [.mv 7 (.c (.d (.i .i64 0)))])
  (.blk 0 (.pre [.keep [7, 6, 5, 3, 0]] (.loop sl11Put_l0))))
  (.seq (.seq (.r [.mv 50 (.t 6),
    .not 51 (.t 50),
    .kill [6, 50]])
  (.cond (.t 51)
    (.pre [.kill [51]] (.r [.mv 52 (.t 5),
      .ld 53 5 true (.t 3),
      .call 54 false [] (.c (.clo sl10Copy [])) [(.t 53)],
      .bs 55 TRes false 1 [.nil .str, .d (.b false), .d (.s []), .d (.i .i64 0), .nil TProp] [(0, (.t 54))],
      .app 56 TRes false 80 (.t 52) (.t 55),
      .kill [3, 5, 52, 53, 54, 55],
      .mv 5 (.t 56),
      .ren 120 69,
      .keep [5],
      .drop [67, 119, 120, 55064, 55068]]))
    (.pre [.keep [5], .drop [67]] (.skip))))
  (.seq (.r [.mv 57 (.t 5),
    .mv 4 (.t 57),
    .ren 69 68,
    .keep [4],
    .drop [69]])
  (.ret))))))⟩
def iisPlain_m : Fn := ⟨1, [.t 2], false,
  .seq (.r [.mv 2 (.c (.d (.b false))),
    .kill [2]])
  (.seq (.r [.mv 3 (.t 0),
    .bin 4 .geq .num (.t 3) (.c (.d (.u 32))),
    .mv 5 (.t 4),
    .gd 5 true (some 6) (.mv 6 (.t 0)),
    .gd 5 true (some 7) (.bin 7 .leq .num (.t 6) (.c (.d (.u 126)))),
    .pick 8 (.t 5) (.t 7) (.c (.d (.b false))),
    .kill [0, 3, 4, 5, 6, 7],
    .mv 2 (.t 8),
    .keep [2]])
  (.ret))⟩
def iisSmall_m : Fn := ⟨1, [.t 2], false,
  .seq (.r [.mv 2 (.c (.d (.b false))),
    .kill [2]])
  (.seq (.r [.mv 3 (.t 0),
    .bin 4 .geq .num (.t 3) (.c (.d (.u 97))),
    .mv 5 (.t 4),
    .gd 5 true (some 6) (.mv 6 (.t 0)),
    .gd 5 true (some 7) (.bin 7 .leq .num (.t 6) (.c (.d (.u 122)))),
    .pick 8 (.t 5) (.t 7) (.c (.d (.b false))),
    .kill [0, 3, 4, 5, 6, 7],
    .mv 2 (.t 8),
    .keep [2]])
  (.ret))⟩
def iisDigit_m : Fn := ⟨1, [.t 2], false,
  .seq (.r [.mv 2 (.c (.d (.b false))),
    .kill [2]])
  (.seq (.r [.mv 3 (.t 0),
    .bin 4 .geq .num (.t 3) (.c (.d (.u 48))),
    .mv 5 (.t 4),
    .gd 5 true (some 6) (.mv 6 (.t 0)),
    .gd 5 true (some 7) (.bin 7 .leq .num (.t 6) (.c (.d (.u 57)))),
    .pick 8 (.t 5) (.t 7) (.c (.d (.b false))),
    .kill [0, 3, 4, 5, 6, 7],
    .mv 2 (.t 8),
    .keep [2]])
  (.ret))⟩
def sl1Small_m : Fn := ⟨1, [.t 2], false,
  .seq (.r [.mv 2 (.c (.d (.b false))),
    .kill [2]])
  (.seq (.r [.mv 3 (.t 0),
    .cvi 4 .i64 (.t 3),
    .call 5 true [] (.c (.clo sl1In [])) [(.t 4), (.c (.d (.i .i64 97))), (.c (.d (.i .i64 122)))],
    .mv 2 (.t 5),
    .keep [2]])
  (.ret))⟩
def sl1Digit_m : Fn := ⟨1, [.t 2], false,
  .seq (.r [.mv 2 (.c (.d (.b false))),
    .kill [2]])
  (.seq (.r [.mv 3 (.t 0),
    .cvi 4 .i64 (.t 3),
    .call 5 true [] (.c (.clo sl1In [])) [(.t 4), (.c (.d (.i .i64 48))), (.c (.d (.i .i64 57)))],
    .mv 2 (.t 5),
    .keep [2]])
  (.ret))⟩
def tabL : List (Nat × Fn) := [(wFnPatches, wFnPatches_m), (wbig, wbig_m), (sDrawPatch, sDrawPatch_m), (iPatch, iPatch_m), (sPatch, sPatch_m), (wsameTree, wsameTree_m), (iSamePath, iSamePath_m), (wsameRes, wsameRes_m), (iTreeOk, iTreeOk_m), (sl1New, sl1New_m), (sl10Any, sl10Any_m), (sl10Path, sl10Path_m), (sl12Any, sl12Any_m), (icopyTree, icopyTree_m), (iFindRes, iFindRes_m), (iSetProps, iSetProps_m), (sTreeOk, sTreeOk_m), (sl10CopyAll, sl10CopyAll_m), (sFindRes, sFindRes_m), (sSetProps, sSetProps_m), (wsameTexts, wsameTexts_m), (wsameProps, wsameProps_m), (iresOk, iresOk_m), (iLessPath, iLessPath_m), (iIsColl, iIsColl_m), (iAbove, iAbove_m), (sl10Draw, sl10Draw_m), (sl1Below, sl1Below_m), (sl2Any, sl2Any_m), (sl1Int, sl1Int_m), (sl10OneProp, sl10OneProp_m), (sNumText, sNumText_m), (sl1Once, sl1Once_m), (sl2Name, sl2Name_m), (sl2Draw, sl2Draw_m), (sl12Sets, sl12Sets_m), (sl1Str, sl1Str_m), (icopyRes, icopyRes_m), (ipropOk, ipropOk_m), (isetProp, isetProp_m), (iPropsOk, iPropsOk_m), (sl1In, sl1In_m), (sPathOk, sPathOk_m), (sPropsOk, sPropsOk_m), (sLessPath, sLessPath_m), (sIsColl, sIsColl_m), (sAbove, sAbove_m), (sl10Copy, sl10Copy_m), (sSamePath, sSamePath_m), (sl10Prop, sl10Prop_m), (sl12One, sl12One_m), (iin, iin_m), (iPathOk, iPathOk_m), (icopyPath, icopyPath_m), (sMakeColl, sMakeColl_m), (sPutFile, sPutFile_m), (sl10Props, sl10Props_m), (sl1Byte, sl1Byte_m), (iPlain, iPlain_m), (iSmallName, iSmallName_m), (ilessProp, ilessProp_m), (sNameOk, sNameOk_m), (sl10LessProp, sl10LessProp_m), (sPlain, sPlain_m), (sSmallName, sSmallName_m), (iNameOk, iNameOk_m), (sl11May, sl11May_m), (sl11Put, sl11Put_m), (iisPlain, iisPlain_m), (iisSmall, iisSmall_m), (iisDigit, iisDigit_m), (sl1Small, sl1Small_m), (sl1Digit, sl1Digit_m)]
end Go.Proofs.YtfklggpopffkjaaK
