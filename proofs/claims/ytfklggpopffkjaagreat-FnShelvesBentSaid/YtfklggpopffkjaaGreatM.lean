import Derived.Test.YtfklggpopffkjaaGreatJ24
import Derived.Test.YtfklggpopffkjaaGreatProg
import Derived.KernelRfl
set_option linter.unusedVariables false
set_option linter.unusedSimpArgs false
namespace Go.Proofs.YtfklggpopffkjaaGreatK
open Go.RowKit
def wFnShelvesBent : Nat := 5
def wbig : Nat := 15
def sDrawCopyTree : Nat := 16
def iCopyTree : Nat := 17
def sCopyTree : Nat := 18
def iMoveTree : Nat := 19
def sMoveTree : Nat := 20
def sDrawPutFile : Nat := 21
def iPutFile : Nat := 22
def sPutFile : Nat := 23
def sDrawMakeColl : Nat := 24
def iMakeColl : Nat := 25
def sMakeColl : Nat := 26
def sDrawRemove : Nat := 27
def iRemove : Nat := 28
def sRemove : Nat := 29
def wsameTree : Nat := 30
def iWide : Nat := 31
def sWide : Nat := 32
def sl1New : Nat := 56
def sl10Any : Nat := 57
def sl10Path : Nat := 58
def sl1Once : Nat := 59
def sl2Any : Nat := 60
def sl11Ver : Nat := 61
def iopForm : Nat := 62
def icopyTree : Nat := 63
def icopied : Nat := 64
def sl11Far : Nat := 65
def iwithout : Nat := 66
def sl1Str : Nat := 67
def sl1Below : Nat := 68
def iFindRes : Nat := 69
def iIsColl : Nat := 70
def iAbove : Nat := 71
def iwithRes : Nat := 72
def icopyPath : Nat := 73
def sl11May : Nat := 74
def sFindRes : Nat := 75
def sIsColl : Nat := 76
def sAbove : Nat := 77
def sl10CopyAll : Nat := 78
def sl11Put : Nat := 79
def sl11Without : Nat := 80
def wsameRes : Nat := 81
def sl10Draw : Nat := 105
def sl1Int : Nat := 106
def sl10OneProp : Nat := 107
def sNumText : Nat := 108
def sl2Name : Nat := 109
def sl2Draw : Nat := 110
def iin : Nat := 54
def iTreeOk : Nat := 92
def iPathOk : Nat := 111
def icopyRes : Nat := 112
def iisAt : Nat := 113
def iDeepOf : Nat := 114
def sDeepOf : Nat := 115
def sSamePath : Nat := 116
def sUnder : Nat := 117
def sl11Long : Nat := 118
def sl10Copy : Nat := 119
def sl1Byte : Nat := 120
def iSamePath : Nat := 121
def iLessPath : Nat := 122
def sl1In : Nat := 52
def sTreeOk : Nat := 86
def sPathOk : Nat := 123
def sLessPath : Nat := 124
def wsameTexts : Nat := 125
def wsameProps : Nat := 126
def sl10Props : Nat := 139
def iresOk : Nat := 134
def iNameOk : Nat := 140
def iUnder : Nat := 141
def sPropsOk : Nat := 129
def sNameOk : Nat := 142
def sSetProps : Nat := 151
def iPropsOk : Nat := 148
def iPlain : Nat := 152
def sl10Prop : Nat := 144
def sl10LessProp : Nat := 145
def sPlain : Nat := 154
def sl12One : Nat := 158
def ipropOk : Nat := 156
def ilessProp : Nat := 157
def iisPlain : Nat := 159
def sSmallName : Nat := 155
def iSmallName : Nat := 163
def sl1Small : Nat := 161
def sl1Digit : Nat := 162
def iisSmall : Nat := 165
def iisDigit : Nat := 166
def x_strings_Contains : Nat := 153
abbrev TProp : T := .pr .str (.pr .str .str)
abbrev TRes : T := .pr (.sl .str) (.pr .bool (.pr .str (.pr (.int .i64) (.sl TProp))))
abbrev Tl1Cur : T := .pr (.sl .u8) (.pr (.int .i64) (.int .i64))
abbrev TSet : T := .pr .bool TProp
def wFnShelvesBent_m : Fn := ⟨1, [.t 2], false,
  .seq (.r [.mv 2 (.c (.d (.b false))),
    .kill [2]])
  (.seq (.seq (.r [.mv 37 (.t 0),
    .call 38 true [] (.c (.clo wbig [])) [(.t 37)],
    .kill [37]])
  (.cond (.t 38)
    (.pre [.keep []] (.seq (.r [.mv 2 (.c (.d (.b true)))])
    (.ret)))
    (.pre [.kill [38]] (.skip))))
  (.seq (.r [.mv 40 (.t 0),
    .call 41 true [] (.c (.clo sDrawCopyTree [])) [(.t 40)],
    .mv 39 (.t 41),
    .ext 42 (.t 39) 0,
    .ext 43 (.t 39) 1,
    .ext 44 (.t 39) 2,
    .ext 45 (.t 39) 3,
    .ext 46 (.t 39) 4,
    .mv 3 (.t 42),
    .mv 4 (.t 43),
    .kill [39, 40, 41, 42, 43],
    .mv 5 (.t 44),
    .mv 6 (.t 45),
    .mv 7 (.t 46),
    .keep [7, 6, 5, 4, 3, 0]])
  (.seq (.r [.mv 48 (.t 3),
    .mv 49 (.t 4),
    .mv 50 (.t 5),
    .mv 51 (.t 6),
    .mv 52 (.t 7),
    .call 53 true [] (.c (.clo iCopyTree [])) [(.t 48), (.t 49), (.t 50), (.t 51), (.t 52)],
    .kill [48, 49, 50, 51, 52],
    .mv 47 (.t 53),
    .ext 54 (.t 47) 0,
    .ext 55 (.t 47) 1,
    .mv 8 (.t 54),
    .mv 9 (.t 55),
    .keep [9, 8, 7, 6, 5, 4, 3, 0]])
  (.seq (.r [.mv 57 (.t 3),
    .mv 58 (.t 4),
    .mv 59 (.t 5),
    .mv 60 (.t 6),
    .mv 61 (.t 7),
    .call 62 true [] (.c (.clo sCopyTree [])) [(.t 57), (.t 58), (.t 59), (.t 60), (.t 61)],
    .kill [57, 58, 59, 60, 61],
    .mv 56 (.t 62),
    .ext 63 (.t 56) 0,
    .ext 64 (.t 56) 1,
    .mv 10 (.t 63),
    .mv 11 (.t 64),
    .kill [56, 57, 58, 59, 60, 61, 62, 63, 64]])
  (.seq (.r [.mv 66 (.t 3),
    .mv 67 (.t 4),
    .mv 68 (.t 5),
    .mv 69 (.t 6),
    .mv 70 (.t 7),
    .call 71 true [] (.c (.clo iMoveTree [])) [(.t 66), (.t 67), (.t 68), (.t 69), (.t 70)],
    .kill [66, 67, 68, 69, 70],
    .mv 65 (.t 71),
    .ext 72 (.t 65) 0,
    .ext 73 (.t 65) 1,
    .mv 12 (.t 72),
    .mv 13 (.t 73),
    .kill [65, 66, 67, 68, 69, 70, 71, 72, 73]])
  (.seq (.r [.mv 75 (.t 3),
    .mv 76 (.t 4),
    .mv 77 (.t 5),
    .mv 78 (.t 6),
    .mv 79 (.t 7),
    .kill [3, 4, 5, 6, 7],
    .call 80 true [] (.c (.clo sMoveTree [])) [(.t 75), (.t 76), (.t 77), (.t 78), (.t 79)],
    .kill [75, 76, 77, 78, 79],
    .mv 74 (.t 80),
    .ext 81 (.t 74) 0,
    .ext 82 (.t 74) 1,
    .mv 14 (.t 81),
    .mv 15 (.t 82),
    .keep [15, 14, 13, 12, 11, 10, 9, 8, 0]])
  (.seq (.r [.mv 84 (.t 0),
    .call 85 true [] (.c (.clo sDrawPutFile [])) [(.t 84)],
    .mv 83 (.t 85),
    .ext 86 (.t 83) 0,
    .ext 87 (.t 83) 1,
    .ext 88 (.t 83) 2,
    .ext 89 (.t 83) 3,
    .mv 16 (.t 86),
    .mv 17 (.t 87),
    .kill [83, 84, 85, 86, 87],
    .mv 18 (.t 88),
    .mv 19 (.t 89),
    .kill [83, 84, 85, 86, 87, 88, 89]])
  (.seq (.r [.mv 91 (.t 16),
    .mv 92 (.t 17),
    .mv 93 (.t 18),
    .mv 94 (.t 19),
    .call 95 true [] (.c (.clo iPutFile [])) [(.t 91), (.t 92), (.t 93), (.t 94)],
    .mv 90 (.t 95),
    .kill [91, 92, 93, 94, 95],
    .ext 96 (.t 90) 0,
    .ext 97 (.t 90) 1,
    .mv 20 (.t 96),
    .mv 21 (.t 97),
    .kill [90, 91, 92, 93, 94, 95, 96, 97]])
  (.seq (.r [.mv 99 (.t 16),
    .mv 100 (.t 17),
    .mv 101 (.t 18),
    .mv 102 (.t 19),
    .call 103 true [] (.c (.clo sPutFile [])) [(.t 99), (.t 100), (.t 101), (.t 102)],
    .kill [16, 17, 18, 19, 99, 100, 101, 102],
    .mv 98 (.t 103),
    .ext 104 (.t 98) 0,
    .ext 105 (.t 98) 1,
    .mv 22 (.t 104),
    .mv 23 (.t 105),
    .kill [16, 17, 18, 19, 98, 99, 100, 101, 102, 103, 104, 105]])
  (.seq (.r [.mv 107 (.t 0),
    .call 108 true [] (.c (.clo sDrawMakeColl [])) [(.t 107)],
    .mv 106 (.t 108),
    .ext 109 (.t 106) 0,
    .ext 110 (.t 106) 1,
    .ext 111 (.t 106) 2,
    .mv 24 (.t 109),
    .mv 25 (.t 110),
    .kill [106, 107, 108, 109, 110],
    .mv 26 (.t 111),
    .kill [106, 107, 108, 109, 110, 111]])
  (.seq (.r [.mv 113 (.t 24),
    .mv 114 (.t 25),
    .mv 115 (.t 26),
    .call 116 true [] (.c (.clo iMakeColl [])) [(.t 113), (.t 114), (.t 115)],
    .mv 112 (.t 116),
    .ext 117 (.t 112) 0,
    .ext 118 (.t 112) 1,
    .kill [112, 113, 114, 115, 116],
    .mv 27 (.t 117),
    .mv 28 (.t 118),
    .kill [112, 113, 114, 115, 116, 117, 118]])
  (.seq (.r [.mv 120 (.t 24),
    .mv 121 (.t 25),
    .mv 122 (.t 26),
    .call 123 true [] (.c (.clo sMakeColl [])) [(.t 120), (.t 121), (.t 122)],
    .kill [24, 25, 26, 120, 121, 122],
    .mv 119 (.t 123),
    .ext 124 (.t 119) 0,
    .ext 125 (.t 119) 1,
    .mv 29 (.t 124),
    .mv 30 (.t 125),
    .kill [24, 25, 26, 119, 120, 121, 122, 123, 124, 125]])
  (.seq (.r [.mv 127 (.t 0),
    .call 128 true [] (.c (.clo sDrawRemove [])) [(.t 127)],
    .mv 126 (.t 128),
    .ext 129 (.t 126) 0,
    .ext 130 (.t 126) 1,
    .mv 31 (.t 129),
    .kill [0, 126, 127, 128, 129],
    .mv 32 (.t 130),
    .kill [0, 126, 127, 128, 129, 130]])
  (.seq (.r [.mv 132 (.t 31),
    .mv 133 (.t 32),
    .call 134 true [] (.c (.clo iRemove [])) [(.t 132), (.t 133)],
    .mv 131 (.t 134),
    .ext 135 (.t 131) 0,
    .ext 136 (.t 131) 1,
    .mv 33 (.t 135),
    .kill [131, 132, 133, 134, 135],
    .mv 34 (.t 136),
    .kill [131, 132, 133, 134, 135, 136]])
  (.seq (.r [.mv 138 (.t 31),
    .mv 139 (.t 32),
    .call 140 true [] (.c (.clo sRemove [])) [(.t 138), (.t 139)],
    .mv 137 (.t 140),
    .ext 141 (.t 137) 0,
    .ext 142 (.t 137) 1,
    .kill [32, 137, 138, 139, 140],
    .mv 35 (.t 141),
    .mv 36 (.t 142),
    .kill [32, 137, 138, 139, 140, 141, 142]])
  (.seq (.r [.mv 143 (.t 9),
    .mv 144 (.t 11),
    .bin 145 .eql .num (.t 143) (.t 144),
    .mv 146 (.t 145),
    .kill [9, 11, 143, 144, 145],
    .gd 146 true (some 147) (.mv 147 (.t 8)),
    .gd 146 true (some 148) (.mv 148 (.t 10)),
    .gd 146 true (some 149) (.call 149 true [] (.c (.clo wsameTree [])) [(.t 147), (.t 148)]),
    .pick 150 (.t 146) (.t 149) (.c (.d (.b false))),
    .kill [8, 10, 146, 147, 148, 149],
    .mv 151 (.t 150),
    .gd 151 true (some 152) (.mv 152 (.t 13)),
    .gd 151 true (some 153) (.mv 153 (.t 15)),
    .gd 151 true (some 154) (.bin 154 .eql .num (.t 152) (.t 153)),
    .kill [13, 15, 150, 152, 153],
    .pick 155 (.t 151) (.t 154) (.c (.d (.b false))),
    .mv 156 (.t 155),
    .gd 156 true (some 157) (.mv 157 (.t 12)),
    .gd 156 true (some 158) (.mv 158 (.t 14)),
    .kill [12, 14, 151, 154, 155],
    .gd 156 true (some 159) (.call 159 true [] (.c (.clo wsameTree [])) [(.t 157), (.t 158)]),
    .pick 160 (.t 156) (.t 159) (.c (.d (.b false))),
    .mv 161 (.t 160),
    .kill [156, 157, 158, 159, 160],
    .gd 161 true (some 162) (.mv 162 (.t 21)),
    .gd 161 true (some 163) (.mv 163 (.t 23)),
    .gd 161 true (some 164) (.bin 164 .eql .num (.t 162) (.t 163)),
    .pick 165 (.t 161) (.t 164) (.c (.d (.b false))),
    .kill [21, 23, 161, 162, 163, 164],
    .mv 166 (.t 165),
    .gd 166 true (some 167) (.mv 167 (.t 20)),
    .gd 166 true (some 168) (.mv 168 (.t 22)),
    .gd 166 true (some 169) (.call 169 true [] (.c (.clo wsameTree [])) [(.t 167), (.t 168)]),
    .kill [20, 22, 165, 167, 168],
    .pick 170 (.t 166) (.t 169) (.c (.d (.b false))),
    .mv 171 (.t 170),
    .gd 171 true (some 172) (.mv 172 (.t 28)),
    .gd 171 true (some 173) (.mv 173 (.t 30)),
    .kill [28, 30, 166, 169, 170],
    .gd 171 true (some 174) (.bin 174 .eql .num (.t 172) (.t 173)),
    .pick 175 (.t 171) (.t 174) (.c (.d (.b false))),
    .mv 176 (.t 175),
    .kill [171, 172, 173, 174, 175],
    .gd 176 true (some 177) (.mv 177 (.t 27)),
    .gd 176 true (some 178) (.mv 178 (.t 29)),
    .gd 176 true (some 179) (.call 179 true [] (.c (.clo wsameTree [])) [(.t 177), (.t 178)]),
    .pick 180 (.t 176) (.t 179) (.c (.d (.b false))),
    .kill [27, 29, 176, 177, 178, 179],
    .mv 181 (.t 180),
    .gd 181 true (some 182) (.mv 182 (.t 34)),
    .gd 181 true (some 183) (.mv 183 (.t 36)),
    .gd 181 true (some 184) (.bin 184 .eql .num (.t 182) (.t 183)),
    .kill [34, 36, 180, 182, 183],
    .pick 185 (.t 181) (.t 184) (.c (.d (.b false))),
    .mv 186 (.t 185),
    .gd 186 true (some 187) (.mv 187 (.t 33)),
    .gd 186 true (some 188) (.mv 188 (.t 35)),
    .kill [33, 35, 181, 184, 185],
    .gd 186 true (some 189) (.call 189 true [] (.c (.clo wsameTree [])) [(.t 187), (.t 188)]),
    .pick 190 (.t 186) (.t 189) (.c (.d (.b false))),
    .mv 191 (.t 190),
    .kill [186, 187, 188, 189, 190],
    .gd 191 true (some 192) (.mv 192 (.t 31)),
    .gd 191 true (some 193) (.call 193 true [] (.c (.clo iWide [])) [(.t 192)]),
    .gd 191 true (some 194) (.mv 194 (.t 31)),
    .gd 191 true (some 195) (.call 195 true [] (.c (.clo sWide [])) [(.t 194)]),
    .gd 191 true (some 196) (.bin 196 .eql .num (.t 193) (.t 195)),
    .kill [31, 192, 193, 194, 195],
    .pick 197 (.t 191) (.t 196) (.c (.d (.b false))),
    .mv 2 (.t 197),
    .keep [2]])
  (.ret)))))))))))))))))⟩
def wbig_m : Fn := ⟨1, [.t 2], false,
  .seq (.r [.mv 2 (.c (.d (.b false))),
    .kill [2]])
  (.seq (.r [.mv 3 (.t 0),
    .len 4 (.t 3),
    .bin 5 .gtr .num (.t 4) (.c (.d (.i .i64 1048576))),
    .mv 2 (.t 5),
    .keep [2]])
  (.ret))⟩
def sDrawCopyTree_m : Fn := ⟨1, [.t 2, .t 3, .t 4, .t 5, .t 6], false,
  .seq (.r [.mv 2 (.c (.nil TRes)),
    .opn 2 2 false,
    .mv 3 (.c (.nil .str)),
    .opn 3 3 false,
    .mv 4 (.c (.nil .str)),
    .opn 4 4 false,
    .mv 5 (.c (.d (.b false))),
    .mv 6 (.c (.d (.i .i64 0))),
    .keep [0],
    .drop [66, 67, 68]])
  (.seq (.r [.mv 11 (.t 0),
    .call 12 false [] (.c (.clo sl1New [])) [(.t 11)],
    .mv 7 (.t 12),
    .keep [7]])
  (.seq (.r [.mv 13 (.t 7),
    .call 14 false [13064] (.c (.clo sl10Any [])) [(.t 13)],
    .mv 8 (.t 14),
    .kill [13, 14]])
  (.seq (.r [.mv 15 (.t 7),
    .mv 16 (.t 8),
    .call 17 false [13064, 15064] (.c (.clo sl10Path [])) [(.t 15), (.t 16)],
    .mv 9 (.t 17),
    .kill [15, 16, 17]])
  (.seq (.r [.mv 18 (.t 7),
    .mv 19 (.t 8),
    .call 20 false [13064, 15064] (.c (.clo sl10Path [])) [(.t 18), (.t 19)],
    .mv 10 (.t 20),
    .ren 21064 74,
    .kill [18, 19, 20],
    .drop [21064]])
  (.seq (.seq (.r [.mv 21 (.t 7),
    .call 22 true [13064] (.c (.clo sl1Once [])) [(.t 21), (.c (.d (.i .i64 10)))],
    .kill [21]])
  (.cond (.t 22)
    (.pre [.kill [10, 22], .drop [74]] (.r [.mv 23 (.t 7),
      .call 24 false [13064] (.c (.clo sl2Any [])) [(.t 23)],
      .mv 10 (.t 24),
      .ren 25064 74,
      .kill [23, 24],
      .drop [25064]]))
    (.pre [.kill [22]] (.skip))))
  (.seq (.r [.mv 25 (.t 8),
    .mv 26 (.t 9),
    .mv 27 (.t 10),
    .mv 28 (.t 7),
    .call 29 true [13064] (.c (.clo sl1Once [])) [(.t 28), (.c (.d (.i .i64 2)))],
    .mv 30 (.t 7),
    .kill [7, 8, 9, 10, 28],
    .call 31 true [13064] (.c (.clo sl11Ver [])) [(.t 30)],
    .mv 2 (.t 25),
    .ren 15064 66,
    .mv 3 (.t 26),
    .ren 18064 67,
    .mv 4 (.t 27),
    .ren 74 68,
    .mv 5 (.t 29),
    .kill [25, 26, 27, 29, 30],
    .mv 6 (.t 31),
    .keep [6, 5, 4, 3, 2],
    .drop [74, 13064, 15064, 18064]])
  (.ret)))))))⟩
def iCopyTree_m : Fn := ⟨5, [.t 10, .t 11], true,
  .seq (.r [.mv 10 (.c (.nil TRes)),
    .frz 10,
    .mv 11 (.c (.d (.i .i64 0))),
    .kill [10, 11]])
  (.seq (.seq (.r [.mv 15 (.t 0),
    .mv 16 (.t 4),
    .mv 17 (.t 1),
    .mv 18 (.t 2),
    .bs 19 (.sl .str) true 2 [.nil .str] [(0, (.t 17)), (1, (.t 18))],
    .call 20 true [] (.c (.clo iopForm [])) [(.t 15), (.t 16), (.t 19)],
    .kill [15, 16, 17, 18, 19],
    .mv 12 (.t 20),
    .kill [15, 16, 17, 18, 19, 20],
    .drop [83]])
  (.seq (.r [.mv 21 (.t 12),
    .bin 22 .neq .num (.t 21) (.c (.d (.i .i64 0))),
    .kill [21]])
  (.cond (.t 22)
    (.pre [.keep [12, 0]] (.seq (.r [.mv 23 (.t 0),
      .call 24 true [] (.c (.clo icopyTree [])) [(.t 23)],
      .mv 25 (.t 12),
      .mv 10 (.t 24),
      .frz 10,
      .mv 11 (.t 25),
      .keep [11, 10]])
    (.ret)))
    (.pre [.kill [12, 22]] (.skip)))))
  (.seq (.r [.mv 27 (.t 0),
    .mv 28 (.t 1),
    .mv 29 (.t 2),
    .mv 30 (.t 3),
    .mv 31 (.t 4),
    .call 32 true [] (.c (.clo icopied [])) [(.t 27), (.t 28), (.t 29), (.t 30), (.t 31)],
    .kill [1, 2, 3, 4, 27, 28, 29, 30, 31],
    .mv 26 (.t 32),
    .ext 33 (.t 26) 0,
    .ext 34 (.t 26) 1,
    .mv 13 (.t 33),
    .mv 14 (.t 34),
    .keep [14, 13, 0]])
  (.seq (.seq (.r [.mv 35 (.t 14),
    .bin 36 .lss .num (.t 35) (.c (.d (.i .i64 400))),
    .mv 37 (.t 36),
    .gd 37 true (some 38) (.mv 38 (.t 13)),
    .gd 37 true (some 39) (.len 39 (.t 38)),
    .gd 37 true (some 40) (.bin 40 .gtr .num (.t 39) (.c (.d (.i .i64 12)))),
    .pick 41 (.t 37) (.t 40) (.c (.d (.b false))),
    .keep [41, 14, 13, 0]])
  (.cond (.t 41)
    (.pre [.kill [14, 41]] (.r [.mv 14 (.c (.d (.i .i64 507)))]))
    (.pre [.kill [41]] (.skip))))
  (.seq (.seq (.r [.mv 42 (.t 14),
    .bin 43 .geq .num (.t 42) (.c (.d (.i .i64 400))),
    .kill [42]])
  (.cond (.t 43)
    (.pre [.kill [13, 43]] (.seq (.r [.mv 44 (.t 0),
      .call 45 true [] (.c (.clo icopyTree [])) [(.t 44)],
      .mv 46 (.t 14),
      .mv 10 (.t 45),
      .frz 10,
      .mv 11 (.t 46),
      .keep [11, 10]])
    (.ret)))
    (.pre [.kill [0, 43]] (.skip))))
  (.seq (.r [.mv 47 (.t 13),
    .mv 48 (.t 14),
    .mv 10 (.t 47),
    .frz 10,
    .mv 11 (.t 48),
    .keep [11, 10]])
  (.ret))))))⟩
def sCopyTree_m : Fn := ⟨5, [.t 10, .t 11], false,
  .seq (.r [.mv 10 (.c (.nil TRes)),
    .opn 10 10 false,
    .mv 11 (.c (.d (.i .i64 0))),
    .kill [10, 11],
    .drop [74]])
  (.seq (.r [.mv 12 (.t 0),
    .mv 13 (.t 1),
    .mv 14 (.t 2),
    .mv 15 (.t 3),
    .mv 16 (.t 4),
    .kill [0, 1, 2, 3, 4],
    .call 17 false [] (.c (.clo sl11Far [])) [(.t 12), (.t 13), (.t 14), (.t 15), (.t 16), (.c (.d (.b false)))],
    .kill [12, 13, 14, 15, 16],
    .ext 18 (.t 17) 0,
    .ext 19 (.t 17) 1,
    .mv 10 (.t 18),
    .ren 18064 74,
    .mv 11 (.t 19),
    .keep [11, 10],
    .drop [18064]])
  (.ret))⟩
def iMoveTree_m : Fn := ⟨5, [.t 10, .t 11], true,
  .seq (.r [.mv 10 (.c (.nil TRes)),
    .frz 10,
    .mv 11 (.c (.d (.i .i64 0))),
    .kill [10, 11]])
  (.seq (.seq (.r [.mv 15 (.t 0),
    .mv 16 (.t 4),
    .mv 17 (.t 1),
    .mv 18 (.t 2),
    .bs 19 (.sl .str) true 2 [.nil .str] [(0, (.t 17)), (1, (.t 18))],
    .call 20 true [] (.c (.clo iopForm [])) [(.t 15), (.t 16), (.t 19)],
    .kill [15, 16, 17, 18, 19],
    .mv 12 (.t 20),
    .kill [15, 16, 17, 18, 19, 20],
    .drop [83]])
  (.seq (.r [.mv 21 (.t 12),
    .bin 22 .neq .num (.t 21) (.c (.d (.i .i64 0))),
    .kill [21]])
  (.cond (.t 22)
    (.pre [.keep [12, 0]] (.seq (.r [.mv 23 (.t 0),
      .call 24 true [] (.c (.clo icopyTree [])) [(.t 23)],
      .mv 25 (.t 12),
      .mv 10 (.t 24),
      .frz 10,
      .mv 11 (.t 25),
      .keep [11, 10]])
    (.ret)))
    (.pre [.kill [12, 22]] (.skip)))))
  (.seq (.r [.mv 27 (.t 0),
    .mv 28 (.t 1),
    .mv 29 (.t 2),
    .mv 30 (.t 3),
    .mv 31 (.t 4),
    .call 32 true [] (.c (.clo icopied [])) [(.t 27), (.t 28), (.t 29), (.t 30), (.t 31)],
    .kill [2, 3, 4, 27, 28, 29, 30, 31],
    .mv 26 (.t 32),
    .ext 33 (.t 26) 0,
    .ext 34 (.t 26) 1,
    .mv 13 (.t 33),
    .frz 13,
    .mv 14 (.t 34),
    .keep [14, 13, 1, 0]])
  (.seq (.seq (.r [.mv 35 (.t 14),
    .bin 36 .geq .num (.t 35) (.c (.d (.i .i64 400))),
    .kill [35]])
  (.cond (.t 36)
    (.pre [.keep [14, 0]] (.seq (.r [.mv 37 (.t 0),
      .call 38 true [] (.c (.clo icopyTree [])) [(.t 37)],
      .mv 39 (.t 14),
      .mv 10 (.t 38),
      .frz 10,
      .mv 11 (.t 39),
      .keep [11, 10]])
    (.ret)))
    (.pre [.kill [36]] (.skip))))
  (.seq (.seq (.r [.mv 40 (.t 13),
    .mv 41 (.t 1),
    .call 42 true [] (.c (.clo iwithout [])) [(.t 40), (.t 41)],
    .mv 13 (.t 42),
    .frz 13,
    .keep [14, 13, 0]])
  (.seq (.r [.mv 43 (.t 13),
    .len 44 (.t 43),
    .bin 45 .gtr .num (.t 44) (.c (.d (.i .i64 12))),
    .kill [43, 44]])
  (.cond (.t 45)
    (.pre [.keep [0]] (.seq (.r [.mv 46 (.t 0),
      .call 47 true [] (.c (.clo icopyTree [])) [(.t 46)],
      .mv 10 (.t 47),
      .frz 10,
      .mv 11 (.c (.d (.i .i64 507))),
      .keep [11, 10]])
    (.ret)))
    (.pre [.kill [0, 45]] (.skip)))))
  (.seq (.r [.mv 48 (.t 13),
    .mv 49 (.t 14),
    .mv 10 (.t 48),
    .frz 10,
    .mv 11 (.t 49),
    .keep [11, 10]])
  (.ret))))))⟩
def sMoveTree_m : Fn := ⟨5, [.t 10, .t 11], false,
  .seq (.r [.mv 10 (.c (.nil TRes)),
    .opn 10 10 false,
    .mv 11 (.c (.d (.i .i64 0))),
    .kill [10, 11],
    .drop [74]])
  (.seq (.r [.mv 12 (.t 0),
    .mv 13 (.t 1),
    .mv 14 (.t 2),
    .mv 15 (.t 3),
    .mv 16 (.t 4),
    .kill [0, 1, 2, 3, 4],
    .call 17 false [] (.c (.clo sl11Far [])) [(.t 12), (.t 13), (.t 14), (.t 15), (.t 16), (.c (.d (.b true)))],
    .kill [12, 13, 14, 15, 16],
    .ext 18 (.t 17) 0,
    .ext 19 (.t 17) 1,
    .mv 10 (.t 18),
    .ren 18064 74,
    .mv 11 (.t 19),
    .keep [11, 10],
    .drop [18064]])
  (.ret))⟩
def sDrawPutFile_m : Fn := ⟨1, [.t 2, .t 3, .t 4, .t 5], false,
  .seq (.r [.mv 2 (.c (.nil TRes)),
    .opn 2 2 false,
    .mv 3 (.c (.nil .str)),
    .opn 3 3 false,
    .mv 4 (.c (.d (.s []))),
    .mv 5 (.c (.d (.i .i64 0))),
    .keep [0],
    .drop [66, 67]])
  (.seq (.r [.mv 10 (.t 0),
    .call 11 false [] (.c (.clo sl1New [])) [(.t 10)],
    .mv 6 (.t 11),
    .keep [6]])
  (.seq (.r [.mv 12 (.t 6),
    .call 13 false [12064] (.c (.clo sl10Any [])) [(.t 12)],
    .mv 7 (.t 13),
    .kill [12, 13]])
  (.seq (.r [.mv 14 (.t 6),
    .mv 15 (.t 7),
    .call 16 false [12064, 14064] (.c (.clo sl10Path [])) [(.t 14), (.t 15)],
    .mv 8 (.t 16),
    .ren 17064 72,
    .kill [14, 15, 16],
    .drop [17064]])
  (.seq (.seq (.r [.mv 17 (.t 6),
    .call 18 true [12064] (.c (.clo sl1Once [])) [(.t 17), (.c (.d (.i .i64 8)))],
    .kill [17]])
  (.cond (.t 18)
    (.pre [.kill [8, 18], .drop [72]] (.r [.mv 19 (.t 6),
      .call 20 false [12064] (.c (.clo sl2Any [])) [(.t 19)],
      .mv 8 (.t 20),
      .ren 21064 72,
      .kill [19, 20],
      .drop [21064]]))
    (.pre [.kill [18]] (.skip))))
  (.seq (.r [.mv 21 (.t 6),
    .bs 22 .str false 3 [.d (.s [])] [(0, (.c (.d (.s [])))), (1, (.c (.d (.s [121])))), (2, (.c (.d (.s [119, 111, 114, 108, 100]))))],
    .frz 22,
    .call 23 true [12064] (.c (.clo sl1Str [])) [(.t 21), (.t 22)],
    .mv 9 (.t 23),
    .kill [21, 22, 23],
    .drop [86]])
  (.seq (.seq (.r [.mv 24 (.t 6),
    .call 25 true [12064] (.c (.clo sl1Once [])) [(.t 24), (.c (.d (.i .i64 12)))],
    .kill [24]])
  (.cond (.t 25)
    (.pre [.kill [9, 25]] (.r [.mv 26 (.t 6),
      .call 27 true [12064] (.c (.clo sl1Below [])) [(.t 26), (.c (.d (.i .i64 2)))],
      .bin 28 .add .num (.c (.d (.i .i64 200))) (.t 27),
      .mk 29 .u8 1 (.t 28),
      .b2s 30 (.t 29),
      .mv 9 (.t 30),
      .keep [9, 8, 7, 6],
      .drop [93]]))
    (.pre [.kill [25]] (.skip))))
  (.seq (.r [.mv 31 (.t 7),
    .mv 32 (.t 8),
    .mv 33 (.t 9),
    .mv 34 (.t 6),
    .call 35 true [12064] (.c (.clo sl11Ver [])) [(.t 34)],
    .kill [6, 7, 8, 9, 34],
    .mv 2 (.t 31),
    .ren 14064 66,
    .mv 3 (.t 32),
    .ren 72 67,
    .mv 4 (.t 33),
    .mv 5 (.t 35),
    .keep [5, 4, 3, 2],
    .drop [72, 12064, 14064]])
  (.ret))))))))⟩
def iPutFile_m : Fn := ⟨4, [.t 8, .t 9], true,
  .seq (.r [.mv 8 (.c (.nil TRes)),
    .frz 8,
    .mv 9 (.c (.d (.i .i64 0))),
    .kill [8, 9]])
  (.seq (.r [.mv 13 (.t 0),
    .call 14 false [] (.c (.clo icopyTree [])) [(.t 13)],
    .mv 10 (.t 14),
    .kill [13, 14]])
  (.seq (.seq (.r [.mv 15 (.t 0),
    .mv 16 (.t 3),
    .mv 17 (.t 1),
    .bs 18 (.sl .str) true 1 [.nil .str] [(0, (.t 17))],
    .call 19 true [] (.c (.clo iopForm [])) [(.t 15), (.t 16), (.t 18)],
    .mv 11 (.t 19),
    .kill [15, 16, 17, 18, 19],
    .drop [82]])
  (.seq (.r [.mv 20 (.t 11),
    .bin 21 .neq .num (.t 20) (.c (.d (.i .i64 0))),
    .kill [20]])
  (.cond (.t 21)
    (.pre [.keep [11, 10]] (.seq (.r [.mv 22 (.t 10),
      .mv 23 (.t 11),
      .mv 8 (.t 22),
      .frz 8,
      .mv 9 (.t 23),
      .keep [9, 8],
      .drop [15064]])
    (.ret)))
    (.pre [.kill [11, 21]] (.skip)))))
  (.seq (.r [.mv 24 (.t 0),
    .mv 25 (.t 1),
    .call 26 true [] (.c (.clo iFindRes [])) [(.t 24), (.t 25)],
    .mv 12 (.t 26),
    .kill [24, 25, 26]])
  (.seq (.blk 0 (.seq (.r [.mv 28 (.t 0),
    .mv 29 (.t 1),
    .call 30 true [] (.c (.clo iIsColl [])) [(.t 28), (.t 29)],
    .mv 27 (.t 30),
    .kill [28, 29, 30]])
  (.cond (.t 27)
    (.pre [.keep [10]] (.seq (.r [.mv 31 (.t 10),
      .mv 8 (.t 31),
      .frz 8,
      .mv 9 (.c (.d (.i .i64 405))),
      .kill [10, 31],
      .drop [15064]])
    (.ret)))
    (.pre [.kill [27]] (.seq (.r [.mv 33 (.t 0),
      .mv 34 (.t 1),
      .call 35 true [] (.c (.clo iAbove [])) [(.t 34)],
      .call 36 true [] (.c (.clo iIsColl [])) [(.t 33), (.t 35)],
      .not 37 (.t 36),
      .mv 32 (.t 37),
      .kill [33, 34, 35, 36, 37]])
    (.cond (.t 32)
      (.pre [.keep [10]] (.seq (.r [.mv 38 (.t 10),
        .mv 8 (.t 38),
        .frz 8,
        .mv 9 (.c (.d (.i .i64 409))),
        .kill [10, 38],
        .drop [15064]])
      (.ret)))
      (.pre [.kill [32]] (.seq (.r [.mv 40 (.t 2),
        .lns 41 (.t 40),
        .bin 42 .gtr .num (.t 41) (.c (.d (.i .i64 200))),
        .mv 39 (.t 42),
        .kill [40, 41, 42]])
      (.cond (.t 39)
        (.pre [.keep [10]] (.seq (.r [.mv 43 (.t 10),
          .mv 8 (.t 43),
          .frz 8,
          .mv 9 (.c (.d (.i .i64 413))),
          .kill [10, 43],
          .drop [15064]])
        (.ret)))
        (.pre [.kill [39]] (.seq (.r [.mv 45 (.t 12),
          .bin 46 .geq .num (.t 45) (.c (.d (.i .i64 0))),
          .mv 44 (.t 46),
          .kill [45, 46]])
        (.cond (.t 44)
          (.pre [.kill [0, 1, 44]] (.seq (.r [.mv 47 (.t 10),
            .mv 48 (.t 12),
            .mv 49 (.t 10),
            .mv 50 (.t 12),
            .mv 51 (.t 2),
            .mv 52 (.t 3),
            .ia 53 5 (.t 47) (.t 48),
            .kill [2, 3, 12, 47, 48],
            .fa 54 (.t 53) 2,
            .st 1 (.t 54) (.t 51),
            .ia 55 5 (.t 49) (.t 50),
            .kill [49, 50, 51, 53, 54],
            .fa 56 (.t 55) 3,
            .st 1 (.t 56) (.t 52),
            .keep [10]])
          (.seq (.r [.mv 57 (.t 10),
            .mv 8 (.t 57),
            .frz 8,
            .mv 9 (.c (.d (.i .i64 204))),
            .kill [10, 57],
            .drop [15064]])
          (.ret))))
          (.pre [.kill [12, 44]] (.seq (.r [.mv 59 (.t 0),
            .len 60 (.t 59),
            .bin 61 .geq .num (.t 60) (.c (.d (.i .i64 12))),
            .mv 58 (.t 61),
            .kill [0, 59, 60, 61]])
          (.cond (.t 58)
            (.pre [.keep [10]] (.seq (.r [.mv 62 (.t 10),
              .mv 8 (.t 62),
              .frz 8,
              .mv 9 (.c (.d (.i .i64 507))),
              .kill [10, 62],
              .drop [15064]])
            (.ret)))
            (.pre [.kill [58]] (.skip)))))))))))))))))
  (.seq (.r [.mv 63 (.t 10),
    .frz 63,
    .mv 64 (.t 1),
    .call 65 true [] (.c (.clo icopyPath [])) [(.t 64)],
    .mv 66 (.t 2),
    .mv 67 (.t 3),
    .kill [1, 2, 3, 10, 64],
    .bd 68 [.nil .str, .d (.b false), .d (.s []), .d (.i .i64 0), .nil TProp] [(0, 1, (.t 65)), (2, 1, (.t 66)), (3, 1, (.t 67))],
    .call 69 true [] (.c (.clo iwithRes [])) [(.t 63), (.t 68)],
    .kill [63, 65, 66, 67, 68],
    .mv 8 (.t 69),
    .frz 8,
    .mv 9 (.c (.d (.i .i64 201))),
    .keep [9, 8],
    .drop [15064]])
  (.ret))))))⟩
def sPutFile_m : Fn := ⟨4, [.t 8, .t 9], false,
  .seq (.r [.mv 8 (.c (.nil TRes)),
    .opn 8 8 false,
    .mv 9 (.c (.d (.i .i64 0))),
    .kill [8, 9],
    .drop [72]])
  (.seq (.r [.mv 13 (.t 0),
    .mv 14 (.t 1),
    .mv 15 (.t 3),
    .call 16 true [] (.c (.clo sl11May [])) [(.t 13), (.t 14), (.t 15)],
    .mv 10 (.t 16),
    .kill [13, 14, 15, 16]])
  (.seq (.r [.mv 17 (.t 0),
    .mv 18 (.t 1),
    .call 19 true [] (.c (.clo sFindRes [])) [(.t 17), (.t 18)],
    .mv 11 (.t 19),
    .kill [17, 18, 19]])
  (.seq (.blk 0 (.seq (.r [.mv 21 (.t 10),
    .bin 22 .neq .num (.t 21) (.c (.d (.i .i64 0))),
    .mv 20 (.t 22),
    .kill [21, 22]])
  (.cond (.t 20)
    (.pre [.kill [20]] (.skip))
    (.pre [.kill [20]] (.seq (.r [.mv 24 (.t 0),
      .mv 25 (.t 1),
      .call 26 true [] (.c (.clo sIsColl [])) [(.t 24), (.t 25)],
      .mv 23 (.t 26),
      .kill [24, 25, 26]])
    (.cond (.t 23)
      (.pre [.kill [10, 23]] (.r [.mv 10 (.c (.d (.i .i64 405)))]))
      (.pre [.kill [23]] (.seq (.r [.mv 28 (.t 0),
        .mv 29 (.t 1),
        .call 30 true [] (.c (.clo sAbove [])) [(.t 29)],
        .call 31 true [] (.c (.clo sIsColl [])) [(.t 28), (.t 30)],
        .not 32 (.t 31),
        .mv 27 (.t 32),
        .kill [28, 29, 30, 31, 32]])
      (.cond (.t 27)
        (.pre [.kill [10, 27]] (.r [.mv 10 (.c (.d (.i .i64 409)))]))
        (.pre [.kill [27]] (.seq (.r [.mv 34 (.t 2),
          .lns 35 (.t 34),
          .bin 36 .gtr .num (.t 35) (.c (.d (.i .i64 200))),
          .mv 33 (.t 36),
          .kill [34, 35, 36]])
        (.cond (.t 33)
          (.pre [.kill [10, 33]] (.r [.mv 10 (.c (.d (.i .i64 413)))]))
          (.pre [.kill [33]] (.seq (.r [.mv 38 (.t 11),
            .bin 39 .lss .num (.t 38) (.c (.d (.i .i64 0))),
            .mv 40 (.t 39),
            .gd 40 true (some 41) (.mv 41 (.t 0)),
            .gd 40 true (some 42) (.len 42 (.t 41)),
            .gd 40 true (some 43) (.bin 43 .geq .num (.t 42) (.c (.d (.i .i64 12)))),
            .pick 44 (.t 40) (.t 43) (.c (.d (.b false))),
            .kill [38, 39, 40, 41, 42, 43],
            .mv 37 (.t 44),
            .kill [38, 39, 40, 41, 42, 43, 44]])
          (.cond (.t 37)
            (.pre [.kill [10, 37]] (.r [.mv 10 (.c (.d (.i .i64 507)))]))
            (.pre [.kill [37]] (.skip)))))))))))))))))
  (.seq (.seq (.r [.mv 45 (.t 10),
    .bin 46 .neq .num (.t 45) (.c (.d (.i .i64 0))),
    .kill [45]])
  (.cond (.t 46)
    (.pre [.keep [10, 0]] (.seq (.r [.mv 47 (.t 0),
      .call 48 false [] (.c (.clo sl10CopyAll [])) [(.t 47)],
      .mv 49 (.t 10),
      .mv 8 (.t 48),
      .ren 49064 72,
      .mv 9 (.t 49),
      .keep [9, 8],
      .drop [49064]])
    (.ret)))
    (.pre [.kill [10, 46]] (.skip))))
  (.seq (.r [.mv 50 (.t 1),
    .mv 51 (.t 2),
    .mv 52 (.t 3),
    .bd 53 [.nil .str, .d (.b false), .d (.s []), .d (.i .i64 0), .nil TProp] [(0, 1, (.t 50)), (2, 1, (.t 51)), (3, 1, (.t 52))],
    .kill [1, 2, 3, 50, 51, 52],
    .al 12 TRes true,
    .st 5 (.t 12) (.t 53),
    .keep [12, 11, 0]])
  (.seq (.seq (.r [.mv 54 (.t 11),
    .bin 55 .lss .num (.t 54) (.c (.d (.i .i64 0))),
    .kill [54]])
  (.cond (.t 55)
    (.pre [.kill [11, 55]] (.seq (.r [.mv 56 (.t 0),
      .ld 57 5 true (.t 12),
      .call 58 false [] (.c (.clo sl11Put [])) [(.t 56), (.t 57)],
      .mv 8 (.t 58),
      .ren 59064 72,
      .kill [0, 12, 56, 57, 58],
      .mv 9 (.c (.d (.i .i64 201))),
      .keep [9, 8],
      .drop [76, 59064]])
    (.ret)))
    (.pre [.kill [55]] (.skip))))
  (.seq (.r [.mv 59 (.t 0),
    .mv 60 (.t 11),
    .ia 61 5 (.t 59) (.t 60),
    .fa 62 (.t 61) 4,
    .ld 63 1 false (.t 62),
    .kill [11, 59, 60, 61, 62],
    .fa 64 (.t 12) 4,
    .st 1 (.t 64) (.t 63),
    .keep [12, 0]])
  (.seq (.r [.mv 65 (.t 0),
    .ld 66 5 true (.t 12),
    .call 67 false [] (.c (.clo sl11Put [])) [(.t 65), (.t 66)],
    .mv 8 (.t 67),
    .ren 68064 72,
    .kill [0, 12, 65, 66, 67],
    .mv 9 (.c (.d (.i .i64 204))),
    .keep [9, 8],
    .drop [76, 68064]])
  (.ret)))))))))⟩
def sDrawMakeColl_m : Fn := ⟨1, [.t 2, .t 3, .t 4], false,
  .seq (.r [.mv 2 (.c (.nil TRes)),
    .opn 2 2 false,
    .mv 3 (.c (.nil .str)),
    .opn 3 3 false,
    .mv 4 (.c (.d (.i .i64 0))),
    .keep [0],
    .drop [66, 67]])
  (.seq (.r [.mv 8 (.t 0),
    .call 9 false [] (.c (.clo sl1New [])) [(.t 8)],
    .mv 5 (.t 9),
    .keep [5]])
  (.seq (.r [.mv 10 (.t 5),
    .call 11 false [10064] (.c (.clo sl10Any [])) [(.t 10)],
    .mv 6 (.t 11),
    .kill [10, 11]])
  (.seq (.r [.mv 12 (.t 5),
    .mv 13 (.t 6),
    .call 14 false [10064, 12064] (.c (.clo sl10Path [])) [(.t 12), (.t 13)],
    .mv 7 (.t 14),
    .ren 15064 71,
    .kill [12, 13, 14],
    .drop [15064]])
  (.seq (.seq (.r [.mv 15 (.t 5),
    .call 16 true [10064] (.c (.clo sl1Once [])) [(.t 15), (.c (.d (.i .i64 8)))],
    .kill [15]])
  (.cond (.t 16)
    (.pre [.kill [7, 16], .drop [71]] (.r [.mv 17 (.t 5),
      .call 18 false [10064] (.c (.clo sl2Any [])) [(.t 17)],
      .mv 7 (.t 18),
      .ren 19064 71,
      .kill [17, 18],
      .drop [19064]]))
    (.pre [.kill [16]] (.skip))))
  (.seq (.r [.mv 19 (.t 6),
    .mv 20 (.t 7),
    .mv 21 (.t 5),
    .call 22 true [10064] (.c (.clo sl11Ver [])) [(.t 21)],
    .mv 2 (.t 19),
    .ren 12064 66,
    .kill [5, 6, 7, 19, 21],
    .mv 3 (.t 20),
    .ren 71 67,
    .mv 4 (.t 22),
    .keep [4, 3, 2],
    .drop [71, 10064, 12064]])
  (.ret))))))⟩
def iMakeColl_m : Fn := ⟨3, [.t 6, .t 7], true,
  .seq (.r [.mv 6 (.c (.nil TRes)),
    .frz 6,
    .mv 7 (.c (.d (.i .i64 0))),
    .kill [6, 7]])
  (.seq (.r [.mv 10 (.t 0),
    .call 11 true [] (.c (.clo icopyTree [])) [(.t 10)],
    .mv 8 (.t 11),
    .kill [10, 11]])
  (.seq (.seq (.r [.mv 12 (.t 0),
    .mv 13 (.t 2),
    .mv 14 (.t 1),
    .bs 15 (.sl .str) true 1 [.nil .str] [(0, (.t 14))],
    .call 16 true [] (.c (.clo iopForm [])) [(.t 12), (.t 13), (.t 15)],
    .mv 9 (.t 16),
    .kill [12, 13, 14, 15, 16],
    .drop [79]])
  (.seq (.r [.mv 17 (.t 9),
    .bin 18 .neq .num (.t 17) (.c (.d (.i .i64 0))),
    .kill [17]])
  (.cond (.t 18)
    (.pre [.keep [9, 8]] (.seq (.r [.mv 19 (.t 8),
      .mv 20 (.t 9),
      .mv 6 (.t 19),
      .frz 6,
      .mv 7 (.t 20),
      .keep [7, 6]])
    (.ret)))
    (.pre [.kill [9, 18]] (.skip)))))
  (.seq (.blk 0 (.seq (.r [.mv 22 (.t 1),
    .len 23 (.t 22),
    .bin 24 .eql .num (.t 23) (.c (.d (.i .i64 0))),
    .mv 25 (.t 24),
    .gd 25 false (some 26) (.mv 26 (.t 0)),
    .gd 25 false (some 27) (.mv 27 (.t 1)),
    .gd 25 false (some 28) (.call 28 true [] (.c (.clo iFindRes [])) [(.t 26), (.t 27)]),
    .kill [22, 23, 24, 26, 27],
    .gd 25 false (some 29) (.bin 29 .geq .num (.t 28) (.c (.d (.i .i64 0)))),
    .pick 30 (.t 25) (.c (.d (.b true))) (.t 29),
    .mv 21 (.t 30),
    .keep [21, 8, 2, 1, 0]])
  (.cond (.t 21)
    (.pre [.keep [8]] (.seq (.r [.mv 31 (.t 8),
      .mv 6 (.t 31),
      .frz 6,
      .mv 7 (.c (.d (.i .i64 405))),
      .kill [8, 31]])
    (.ret)))
    (.pre [.kill [21]] (.seq (.r [.mv 33 (.t 0),
      .mv 34 (.t 1),
      .call 35 true [] (.c (.clo iAbove [])) [(.t 34)],
      .call 36 true [] (.c (.clo iIsColl [])) [(.t 33), (.t 35)],
      .not 37 (.t 36),
      .mv 32 (.t 37),
      .kill [33, 34, 35, 36, 37]])
    (.cond (.t 32)
      (.pre [.keep [8]] (.seq (.r [.mv 38 (.t 8),
        .mv 6 (.t 38),
        .frz 6,
        .mv 7 (.c (.d (.i .i64 409))),
        .kill [8, 38]])
      (.ret)))
      (.pre [.kill [32]] (.seq (.r [.mv 40 (.t 0),
        .len 41 (.t 40),
        .bin 42 .geq .num (.t 41) (.c (.d (.i .i64 12))),
        .mv 39 (.t 42),
        .kill [0, 40, 41, 42]])
      (.cond (.t 39)
        (.pre [.keep [8]] (.seq (.r [.mv 43 (.t 8),
          .mv 6 (.t 43),
          .frz 6,
          .mv 7 (.c (.d (.i .i64 507))),
          .kill [8, 43]])
        (.ret)))
        (.pre [.kill [39]] (.skip)))))))))))
  (.seq (.r [.mv 44 (.t 8),
    .mv 45 (.t 1),
    .call 46 true [] (.c (.clo icopyPath [])) [(.t 45)],
    .mv 47 (.t 2),
    .bd 48 [.nil .str, .d (.b false), .d (.s []), .d (.i .i64 0), .nil TProp] [(0, 1, (.t 46)), (1, 1, (.c (.d (.b true)))), (3, 1, (.t 47))],
    .kill [1, 2, 8, 45, 46, 47],
    .call 49 true [] (.c (.clo iwithRes [])) [(.t 44), (.t 48)],
    .mv 6 (.t 49),
    .frz 6,
    .mv 7 (.c (.d (.i .i64 201))),
    .keep [7, 6]])
  (.ret)))))⟩
def sMakeColl_m : Fn := ⟨3, [.t 6, .t 7], false,
  .seq (.r [.mv 6 (.c (.nil TRes)),
    .opn 6 6 false,
    .mv 7 (.c (.d (.i .i64 0))),
    .kill [6, 7],
    .drop [70]])
  (.seq (.r [.mv 9 (.t 0),
    .mv 10 (.t 1),
    .mv 11 (.t 2),
    .call 12 true [] (.c (.clo sl11May [])) [(.t 9), (.t 10), (.t 11)],
    .mv 8 (.t 12),
    .kill [9, 10, 11, 12]])
  (.seq (.blk 0 (.seq (.r [.mv 14 (.t 8),
    .bin 15 .neq .num (.t 14) (.c (.d (.i .i64 0))),
    .mv 13 (.t 15),
    .kill [14, 15]])
  (.cond (.t 13)
    (.pre [.kill [13]] (.skip))
    (.pre [.kill [13]] (.seq (.r [.mv 17 (.t 1),
      .len 18 (.t 17),
      .bin 19 .eql .num (.t 18) (.c (.d (.i .i64 0))),
      .mv 20 (.t 19),
      .gd 20 false (some 21) (.mv 21 (.t 0)),
      .gd 20 false (some 22) (.mv 22 (.t 1)),
      .gd 20 false (some 23) (.call 23 true [] (.c (.clo sFindRes [])) [(.t 21), (.t 22)]),
      .kill [17, 18, 19, 21, 22],
      .gd 20 false (some 24) (.bin 24 .geq .num (.t 23) (.c (.d (.i .i64 0)))),
      .pick 25 (.t 20) (.c (.d (.b true))) (.t 24),
      .mv 16 (.t 25),
      .keep [16, 8, 2, 1, 0]])
    (.cond (.t 16)
      (.pre [.kill [8, 16]] (.r [.mv 8 (.c (.d (.i .i64 405)))]))
      (.pre [.kill [16]] (.seq (.r [.mv 27 (.t 0),
        .mv 28 (.t 1),
        .call 29 true [] (.c (.clo sAbove [])) [(.t 28)],
        .call 30 true [] (.c (.clo sIsColl [])) [(.t 27), (.t 29)],
        .not 31 (.t 30),
        .mv 26 (.t 31),
        .kill [27, 28, 29, 30, 31]])
      (.cond (.t 26)
        (.pre [.kill [8, 26]] (.r [.mv 8 (.c (.d (.i .i64 409)))]))
        (.pre [.kill [26]] (.seq (.r [.mv 33 (.t 0),
          .len 34 (.t 33),
          .bin 35 .geq .num (.t 34) (.c (.d (.i .i64 12))),
          .mv 32 (.t 35),
          .kill [33, 34, 35]])
        (.cond (.t 32)
          (.pre [.kill [8, 32]] (.r [.mv 8 (.c (.d (.i .i64 507)))]))
          (.pre [.kill [32]] (.skip))))))))))))))
  (.seq (.seq (.r [.mv 36 (.t 8),
    .bin 37 .neq .num (.t 36) (.c (.d (.i .i64 0))),
    .kill [36]])
  (.cond (.t 37)
    (.pre [.keep [8, 0]] (.seq (.r [.mv 38 (.t 0),
      .call 39 false [] (.c (.clo sl10CopyAll [])) [(.t 38)],
      .mv 40 (.t 8),
      .mv 6 (.t 39),
      .ren 40064 70,
      .mv 7 (.t 40),
      .keep [7, 6],
      .drop [40064]])
    (.ret)))
    (.pre [.kill [8, 37]] (.skip))))
  (.seq (.r [.mv 41 (.t 0),
    .mv 42 (.t 1),
    .mv 43 (.t 2),
    .bd 44 [.nil .str, .d (.b false), .d (.s []), .d (.i .i64 0), .nil TProp] [(0, 1, (.t 42)), (1, 1, (.c (.d (.b true)))), (3, 1, (.t 43))],
    .kill [0, 1, 2, 42, 43],
    .call 45 false [] (.c (.clo sl11Put [])) [(.t 41), (.t 44)],
    .mv 6 (.t 45),
    .ren 46064 70,
    .mv 7 (.c (.d (.i .i64 201))),
    .keep [7, 6],
    .drop [46064]])
  (.ret)))))⟩
def sDrawRemove_m : Fn := ⟨1, [.t 2, .t 3], false,
  .seq (.r [.mv 2 (.c (.nil TRes)),
    .opn 2 2 false,
    .mv 3 (.c (.nil .str)),
    .opn 3 3 false,
    .keep [0],
    .drop [66, 67]])
  (.seq (.r [.mv 6 (.t 0),
    .call 7 false [] (.c (.clo sl1New [])) [(.t 6)],
    .mv 4 (.t 7),
    .keep [4]])
  (.seq (.r [.mv 8 (.t 4),
    .call 9 false [8064] (.c (.clo sl10Any [])) [(.t 8)],
    .mv 5 (.t 9),
    .kill [8, 9]])
  (.seq (.seq (.r [.mv 10 (.t 4),
    .call 11 true [8064] (.c (.clo sl1Once [])) [(.t 10), (.c (.d (.i .i64 8)))],
    .kill [10]])
  (.cond (.t 11)
    (.pre [.kill [11]] (.seq (.r [.mv 12 (.t 5),
      .mv 13 (.t 4),
      .call 14 false [8064] (.c (.clo sl2Any [])) [(.t 13)],
      .mv 2 (.t 12),
      .ren 10064 66,
      .mv 3 (.t 14),
      .ren 15064 67,
      .keep [3, 2],
      .drop [8064, 10064, 15064]])
    (.ret)))
    (.pre [.kill [11]] (.skip))))
  (.seq (.r [.mv 15 (.t 5),
    .mv 16 (.t 4),
    .mv 17 (.t 5),
    .call 18 false [8064, 10064] (.c (.clo sl10Path [])) [(.t 16), (.t 17)],
    .mv 2 (.t 15),
    .ren 10064 66,
    .kill [4, 5, 15, 16, 17],
    .mv 3 (.t 18),
    .ren 19064 67,
    .keep [3, 2],
    .drop [8064, 10064, 19064]])
  (.ret)))))⟩
def iRemove_m : Fn := ⟨2, [.t 4, .t 5], false,
  .seq (.r [.mv 4 (.c (.nil TRes)),
    .opn 4 4 false,
    .mv 5 (.c (.d (.i .i64 0))),
    .kill [4, 5],
    .drop [68]])
  (.seq (.seq (.r [.mv 7 (.t 0),
    .mv 8 (.t 1),
    .bs 9 (.sl .str) true 1 [.nil .str] [(0, (.t 8))],
    .call 10 true [] (.c (.clo iopForm [])) [(.t 7), (.c (.d (.i .i64 0))), (.t 9)],
    .mv 6 (.t 10),
    .keep [6, 1, 0],
    .drop [73]])
  (.seq (.r [.mv 11 (.t 6),
    .bin 12 .neq .num (.t 11) (.c (.d (.i .i64 0))),
    .kill [11]])
  (.cond (.t 12)
    (.pre [.kill [1, 12]] (.seq (.r [.mv 13 (.t 0),
      .call 14 false [] (.c (.clo icopyTree [])) [(.t 13)],
      .mv 15 (.t 6),
      .mv 4 (.t 14),
      .ren 15064 68,
      .mv 5 (.t 15),
      .keep [5, 4],
      .drop [15064]])
    (.ret)))
    (.pre [.kill [6, 12]] (.skip)))))
  (.seq (.blk 0 (.seq (.r [.mv 17 (.t 1),
    .len 18 (.t 17),
    .bin 19 .eql .num (.t 18) (.c (.d (.i .i64 0))),
    .mv 16 (.t 19),
    .kill [17, 18, 19]])
  (.cond (.t 16)
    (.pre [.keep [0]] (.seq (.r [.mv 20 (.t 0),
      .call 21 false [] (.c (.clo icopyTree [])) [(.t 20)],
      .mv 4 (.t 21),
      .ren 22064 68,
      .mv 5 (.c (.d (.i .i64 403))),
      .keep [5, 4],
      .drop [22064]])
    (.ret)))
    (.pre [.kill [16]] (.seq (.r [.mv 23 (.t 0),
      .mv 24 (.t 1),
      .call 25 true [] (.c (.clo iFindRes [])) [(.t 23), (.t 24)],
      .bin 26 .lss .num (.t 25) (.c (.d (.i .i64 0))),
      .mv 22 (.t 26),
      .keep [22, 1, 0]])
    (.cond (.t 22)
      (.pre [.keep [0]] (.seq (.r [.mv 27 (.t 0),
        .call 28 false [] (.c (.clo icopyTree [])) [(.t 27)],
        .mv 4 (.t 28),
        .ren 29064 68,
        .mv 5 (.c (.d (.i .i64 404))),
        .keep [5, 4],
        .drop [29064]])
      (.ret)))
      (.pre [.kill [22]] (.skip))))))))
  (.seq (.r [.mv 29 (.t 0),
    .mv 30 (.t 1),
    .call 31 false [] (.c (.clo iwithout [])) [(.t 29), (.t 30)],
    .mv 4 (.t 31),
    .ren 32064 68,
    .kill [0, 1, 29, 30, 31],
    .mv 5 (.c (.d (.i .i64 204))),
    .keep [5, 4],
    .drop [32064]])
  (.ret))))⟩
def sRemove_m : Fn := ⟨2, [.t 4, .t 5], false,
  .seq (.r [.mv 4 (.c (.nil TRes)),
    .opn 4 4 false,
    .mv 5 (.c (.d (.i .i64 0))),
    .kill [4, 5],
    .drop [68]])
  (.seq (.r [.mv 7 (.t 0),
    .mv 8 (.t 1),
    .call 9 true [] (.c (.clo sl11May [])) [(.t 7), (.t 8), (.c (.d (.i .i64 0)))],
    .mv 6 (.t 9),
    .kill [7, 8, 9]])
  (.seq (.blk 0 (.seq (.r [.mv 11 (.t 6),
    .bin 12 .neq .num (.t 11) (.c (.d (.i .i64 0))),
    .mv 10 (.t 12),
    .kill [11, 12]])
  (.cond (.t 10)
    (.pre [.kill [10]] (.skip))
    (.pre [.kill [10]] (.seq (.r [.mv 14 (.t 1),
      .len 15 (.t 14),
      .bin 16 .eql .num (.t 15) (.c (.d (.i .i64 0))),
      .mv 13 (.t 16),
      .kill [14, 15, 16]])
    (.cond (.t 13)
      (.pre [.kill [6, 13]] (.r [.mv 6 (.c (.d (.i .i64 403)))]))
      (.pre [.kill [13]] (.seq (.r [.mv 18 (.t 0),
        .mv 19 (.t 1),
        .call 20 true [] (.c (.clo sFindRes [])) [(.t 18), (.t 19)],
        .bin 21 .lss .num (.t 20) (.c (.d (.i .i64 0))),
        .mv 17 (.t 21),
        .kill [18, 19, 20, 21]])
      (.cond (.t 17)
        (.pre [.kill [6, 17]] (.r [.mv 6 (.c (.d (.i .i64 404)))]))
        (.pre [.kill [17]] (.skip)))))))))))
  (.seq (.seq (.r [.mv 22 (.t 6),
    .bin 23 .neq .num (.t 22) (.c (.d (.i .i64 0))),
    .kill [22]])
  (.cond (.t 23)
    (.pre [.kill [1, 23]] (.seq (.r [.mv 24 (.t 0),
      .call 25 false [] (.c (.clo sl10CopyAll [])) [(.t 24)],
      .mv 26 (.t 6),
      .mv 4 (.t 25),
      .ren 26064 68,
      .mv 5 (.t 26),
      .keep [5, 4],
      .drop [26064]])
    (.ret)))
    (.pre [.kill [6, 23]] (.skip))))
  (.seq (.r [.mv 27 (.t 0),
    .mv 28 (.t 1),
    .call 29 false [] (.c (.clo sl11Without [])) [(.t 27), (.t 28)],
    .mv 4 (.t 29),
    .ren 30064 68,
    .kill [0, 1, 27, 28, 29],
    .mv 5 (.c (.d (.i .i64 204))),
    .keep [5, 4],
    .drop [30064]])
  (.ret)))))⟩
/-- live: [0, 1, 5]; objects: [] -/
def wsameTree_l0 : C :=
  .seq (.seq (.r [.mv 11 (.t 5),
      .mv 12 (.t 0),
      .len 13 (.t 12),
      .bin 14 .lss .num (.t 11) (.t 13),
      .kill [11, 12, 13]])
    (.cond (.t 14)
      (.pre [.kill [14]] (.skip))
      (.pre [.keep []] (.ex 0))))
    (.seq (.blk 1 (.seq (.post (.r [.mv 17 (.t 0),
      .mv 18 (.t 5),
      .ia 19 5 (.t 17) (.t 18),
      .ld 20 5 true (.t 19),
      .mv 21 (.t 1),
      .mv 22 (.t 5),
      .ia 23 5 (.t 21) (.t 22),
      .ld 24 5 true (.t 23),
      .call 25 true [] (.c (.clo wsameRes [])) [(.t 20), (.t 24)],
      .not 26 (.t 25)]) [.keep [26, 5, 1, 0]])
    (.cond (.t 26)
      (.pre [.keep []] (.seq (.r [.mv 4 (.c (.d (.b false)))])
      (.ret)))
      (.pre [.kill [26]] (.skip)))))
    (.r [.mv 15 (.t 5),
      .bin 16 .add .num (.t 15) (.c (.d (.i .i64 1))),
      .mv 5 (.t 16),
      .kill [15, 16]]))
def wsameTree_m : Fn := ⟨2, [.t 4], false,
  .seq (.r [.mv 4 (.c (.d (.b false))),
    .kill [4]])
  (.seq (.seq (.r [.mv 6 (.t 0),
    .len 7 (.t 6),
    .mv 8 (.t 1),
    .len 9 (.t 8),
    .bin 10 .neq .num (.t 7) (.t 9),
    .keep [10, 1, 0]])
  (.cond (.t 10)
    (.pre [.keep []] (.seq (.r [.mv 4 (.c (.d (.b false)))])
    (.ret)))
    (.pre [.kill [10]] (.skip))))
  (.seq (.seq (.r [.mv 5 (.c (.d (.i .i64 0)))])
  (.blk 0 (.pre [.keep [5, 1, 0]] (.loop wsameTree_l0))))
  (.seq (.r [.mv 4 (.c (.d (.b true)))])
  (.ret))))⟩
/-- live: [3, 6, 7, 8]; objects: [] -/
def iWide_l0 : C :=
  .seq (.r [.bin 9 .lss .num (.t 8) (.t 7)])
    (.seq (.cond (.t 9)
      (.pre [.kill [9]] (.skip))
      (.pre [.keep [3]] (.ex 0)))
    (.seq (.blk 1 (.seq (.r [.ia 10 5 (.t 6) (.t 8),
      .ld 11 5 true (.t 10),
      .al 5 TRes true,
      .st 5 (.t 5) (.t 11),
      .kill [10, 11]])
    (.r [.mv 12 (.t 3),
      .fa 13 (.t 5) 2,
      .ld 14 1 false (.t 13),
      .lns 15 (.t 14),
      .bin 16 .add .num (.t 12) (.t 15),
      .kill [3, 5, 12, 13, 14, 15],
      .mv 3 (.t 16),
      .keep [8, 7, 6, 3],
      .drop [69]])))
    (.r [.bin 17 .add .num (.t 8) (.c (.d (.i .i64 1))),
      .mv 8 (.t 17),
      .kill [17]])))
def iWide_m : Fn := ⟨1, [.t 2], false,
  .seq (.r [.mv 2 (.c (.d (.i .i64 0))),
    .kill [2]])
  (.seq (.r [.mv 3 (.c (.d (.i .i64 0)))])
  (.seq (.seq (.r [.mv 6 (.t 0),
    .len 7 (.t 6),
    .mv 8 (.c (.d (.i .i64 0))),
    .kill [0]])
  (.blk 0 (.pre [.keep [8, 7, 6, 3]] (.loop iWide_l0))))
  (.seq (.r [.mv 18 (.t 3),
    .mv 2 (.t 18),
    .keep [2]])
  (.ret))))⟩
/-- live: [0, 3, 4]; objects: [] -/
def sWide_l0 : C :=
  .seq (.seq (.r [.mv 5 (.t 4),
      .mv 6 (.t 0),
      .len 7 (.t 6),
      .bin 8 .lss .num (.t 5) (.t 7),
      .kill [5, 6, 7]])
    (.cond (.t 8)
      (.pre [.kill [8]] (.skip))
      (.pre [.keep [3]] (.ex 0))))
    (.seq (.blk 1 (.r [.mv 11 (.t 3),
      .mv 12 (.t 0),
      .mv 13 (.t 4),
      .ia 14 5 (.t 12) (.t 13),
      .fa 15 (.t 14) 2,
      .ld 16 1 false (.t 15),
      .kill [3, 12, 13, 14, 15],
      .lns 17 (.t 16),
      .bin 18 .add .num (.t 11) (.t 17),
      .mv 3 (.t 18),
      .keep [4, 3, 0]]))
    (.r [.mv 9 (.t 4),
      .bin 10 .add .num (.t 9) (.c (.d (.i .i64 1))),
      .mv 4 (.t 10),
      .kill [9, 10]]))
def sWide_m : Fn := ⟨1, [.t 2], false,
  .seq (.r [.mv 2 (.c (.d (.i .i64 0))),
    .kill [2]])
  (.seq (.r [.mv 3 (.c (.d (.i .i64 0)))])
  (.seq (.seq (.r [.mv 4 (.c (.d (.i .i64 0)))])
  (.blk 0 (.pre [.keep [4, 3, 0]] (.loop sWide_l0))))
  (.seq (.r [.mv 19 (.t 3),
    .mv 2 (.t 19),
    .keep [2]])
  (.ret))))⟩
/-- live: [0, 3, 4]; objects: [] -/
def sl1New_l0 : C :=
  .seq (.seq (.r [.mv 8 (.t 4),
      .mv 9 (.t 0),
      .len 10 (.t 9),
      .bin 11 .lss .num (.t 8) (.t 10),
      .mv 12 (.t 11),
      .gd 12 true (some 13) (.mv 13 (.t 4)),
      .gd 12 true (some 14) (.bin 14 .lss .num (.t 13) (.c (.d (.i .i64 4000)))),
      .kill [8, 9, 10, 11, 13],
      .pick 15 (.t 12) (.t 14) (.c (.d (.b false))),
      .keep [15, 4, 3, 0]])
    (.cond (.t 15)
      (.pre [.kill [15]] (.skip))
      (.pre [.kill [4, 15]] (.ex 0))))
    (.seq (.blk 1 (.r [.mv 18 (.t 3),
      .bin 19 .mul .num (.t 18) (.c (.d (.i .i64 137))),
      .mv 20 (.t 0),
      .mv 21 (.t 4),
      .ia 22 1 (.t 20) (.t 21),
      .ld 23 1 false (.t 22),
      .kill [3, 18, 20, 21, 22],
      .cvi 24 .i64 (.t 23),
      .bin 25 .add .num (.t 19) (.t 24),
      .bin 26 .add .num (.t 25) (.c (.d (.i .i64 11))),
      .bin 27 .and .num (.t 26) (.c (.d (.i .i64 1073741823))),
      .kill [19, 23, 24, 25, 26],
      .mv 3 (.t 27),
      .keep [4, 3, 0]]))
    (.r [.mv 16 (.t 4),
      .bin 17 .add .num (.t 16) (.c (.d (.i .i64 1))),
      .mv 4 (.t 17),
      .kill [16, 17]]))
def sl1New_m : Fn := ⟨1, [.t 2], false,
  .seq (.r [.mv 2 (.c (.d (.x (.pointer none)))),
    .kill [2],
    .drop [66]])
  (.seq (.r [.mv 5 (.t 0),
    .len 6 (.t 5),
    .bin 7 .add .num (.c (.d (.i .i64 774774))) (.t 6),
    .mv 3 (.t 7),
    .keep [3, 0]])
  (.seq (.seq (.r [.mv 4 (.c (.d (.i .i64 0)))])
  (.blk 0 (.pre [.keep [4, 3, 0]] (.loop sl1New_l0))))
  (.seq (.r [.mv 28 (.t 0),
    .mv 29 (.t 3),
    .bd 30 [.nil .u8, .d (.i .i64 0), .d (.i .i64 0)] [(0, 1, (.t 28)), (2, 1, (.t 29))],
    .bx 31 Tl1Cur true (.t 30),
    .kill [0, 3, 28, 29, 30],
    .mv 2 (.t 31),
    .ren 95 66,
    .keep [2],
    .drop [95]])
  (.ret))))⟩
/-- live: [3, 5]; objects: [67] -/
def sl10Any_l0 : C :=
  .seq (.seq (.r [.mv 75 (.t 5),
                  .bin 76 .lss .num (.t 75) (.c (.d (.i .i64 12))),
                  .kill [75]])
                (.cond (.t 76)
                  (.pre [.kill [76]] (.skip))
                  (.pre [.keep [3]] (.ex 1))))
                (.seq (.blk 2 (.r [.mv 79 (.t 3),
                  .mv 80 (.t 5),
                  .bin 81 .add .num (.c (.d (.i .i64 10))) (.t 80),
                  .call 82 true [] (.c (.clo sNumText [])) [(.t 81)],
                  .bin 83 .add .num (.c (.d (.s [122]))) (.t 82),
                  .bs 84 .str false 1 [.d (.s [])] [(0, (.t 83))],
                  .kill [3, 80, 81, 82, 83],
                  .bd 85 [.nil .str, .d (.b false), .d (.s []), .d (.i .i64 0), .nil TProp] [(0, 1, (.t 84))],
                  .bs 86 TRes false 1 [.nil .str, .d (.b false), .d (.s []), .d (.i .i64 0), .nil TProp] [(0, (.t 85))],
                  .app 87 TRes false 80 (.t 79) (.t 86),
                  .mv 3 (.t 87),
                  .ren 151 67,
                  .keep [5, 3],
                  .drop [148, 150, 151]]))
                (.r [.mv 77 (.t 5),
                  .bin 78 .add .num (.t 77) (.c (.d (.i .i64 1))),
                  .mv 5 (.t 78),
                  .kill [77, 78]]))
def sl10Any_m : Fn := ⟨1, [.t 2], false,
  .seq (.r [.mv 2 (.c (.nil TRes)),
    .opn 2 2 false,
    .kill [2],
    .drop [66]])
  (.seq (.r [.mv 6 (.t 0),
    .call 7 false [0] (.c (.clo sl10Draw [])) [(.t 6)],
    .mv 3 (.t 7),
    .ren 8064 67,
    .kill [6, 7],
    .drop [8064]])
  (.seq (.seq (.r [.mv 8 (.t 3),
    .len 9 (.t 8),
    .bin 10 .eql .num (.t 9) (.c (.d (.i .i64 0))),
    .kill [8, 9]])
  (.cond (.t 10)
    (.pre [.keep [3]] (.seq (.r [.mv 11 (.t 3),
      .mv 2 (.t 11),
      .ren 67 66,
      .keep [2],
      .drop [67]])
    (.ret)))
    (.pre [.kill [10]] (.skip))))
  (.seq (.r [.mv 12 (.t 0),
    .mv 13 (.t 3),
    .len 14 (.t 13),
    .call 15 true [0] (.c (.clo sl1Below [])) [(.t 12), (.t 14)],
    .mv 4 (.t 15),
    .keep [4, 3, 0]])
  (.seq (.seq (.r [.mv 16 (.t 0),
    .call 17 true [0] (.c (.clo sl1Below [])) [(.t 16), (.c (.d (.i .i64 14)))],
    .kill [16]])
  (.blk 0 (.seq (.r [.bin 19 .eql .num (.t 17) (.c (.d (.i .i64 0))),
    .mv 18 (.t 19),
    .kill [19]])
  (.cond (.t 18)
    (.pre [.kill [17, 18]] (.r [.mv 20 (.t 3),
      .mv 21 (.t 4),
      .mv 22 (.t 0),
      .call 23 false [0] (.c (.clo sl2Any [])) [(.t 22)],
      .ia 24 5 (.t 20) (.t 21),
      .kill [0, 4, 20, 21, 22],
      .fa 25 (.t 24) 0,
      .st 1 (.t 25) (.t 23),
      .keep [3],
      .drop [24064]]))
    (.pre [.kill [18]] (.seq (.r [.bin 27 .eql .num (.t 17) (.c (.d (.i .i64 1))),
      .mv 26 (.t 27),
      .kill [27]])
    (.cond (.t 26)
      (.pre [.keep [4, 3]] (.r [.mv 28 (.t 3),
        .mv 29 (.t 4),
        .mv 30 (.t 3),
        .mv 31 (.t 4),
        .ia 32 5 (.t 30) (.t 31),
        .fa 33 (.t 32) 1,
        .ld 34 1 false (.t 33),
        .kill [4, 30, 31, 32, 33],
        .not 35 (.t 34),
        .ia 36 5 (.t 28) (.t 29),
        .fa 37 (.t 36) 1,
        .st 1 (.t 37) (.t 35),
        .keep [3]]))
      (.pre [.kill [26]] (.seq (.r [.bin 39 .eql .num (.t 17) (.c (.d (.i .i64 2))),
        .mv 38 (.t 39),
        .kill [39]])
      (.cond (.t 38)
        (.pre [.kill [17, 38]] (.r [.mv 40 (.t 3),
          .mv 41 (.t 4),
          .mv 42 (.t 0),
          .call 43 true [0] (.c (.clo sl1Below [])) [(.t 42), (.c (.d (.i .i64 2)))],
          .bin 44 .add .num (.c (.d (.i .i64 200))) (.t 43),
          .mk 45 .u8 1 (.t 44),
          .kill [0, 4, 42, 43, 44],
          .b2s 46 (.t 45),
          .ia 47 5 (.t 40) (.t 41),
          .fa 48 (.t 47) 2,
          .st 1 (.t 48) (.t 46),
          .keep [3],
          .drop [109]]))
        (.pre [.kill [38]] (.seq (.r [.bin 50 .eql .num (.t 17) (.c (.d (.i .i64 3))),
          .mv 49 (.t 50),
          .kill [50]])
        (.cond (.t 49)
          (.pre [.kill [17, 49]] (.r [.mv 51 (.t 3),
            .mv 52 (.t 4),
            .mv 53 (.t 0),
            .bs 54 (.int .i64) false 3 [.d (.i .i64 0)] [(0, (.c (.d (.i .i64 (-1))))), (1, (.c (.d (.i .i64 99999)))), (2, (.c (.d (.i .i64 100000))))],
            .frz 54,
            .call 55 true [0] (.c (.clo sl1Int [])) [(.t 53), (.t 54)],
            .ia 56 5 (.t 51) (.t 52),
            .kill [0, 4, 51, 52, 53, 54],
            .fa 57 (.t 56) 3,
            .st 1 (.t 57) (.t 55),
            .keep [3],
            .drop [118]]))
          (.pre [.kill [49]] (.seq (.r [.bin 59 .eql .num (.t 17) (.c (.d (.i .i64 4))),
            .mv 58 (.t 59),
            .kill [59]])
          (.cond (.t 58)
            (.pre [.kill [17, 58]] (.post (.r [.an [130, 133, 134, 69064] [0, 67] [] [] (.mv 60 (.t 3)),
              .an [130, 133, 134, 69064] [0, 67] [] [] (.mv 61 (.t 4)),
              .an [133, 69064] [0] [] [] (.mv 62 (.t 3)),
              .an [133, 69064] [0] [] [] (.mv 63 (.t 4)),
              .an [133, 69064] [0] [] [] (.ia 64 5 (.t 62) (.t 63)),
              .an [133, 69064] [0] [] [] (.fa 65 (.t 64) 4),
              .an [133, 69064] [0] [130] [67] (.ldm 66 (.t 65)),
              .an [130] [67] [] [] (.mv 67 (.t 0)),
              .an [130] [67] [69064] [0] (.call 68 true [0] (.c (.clo sl10OneProp [])) [(.t 67)]),
              .an [130] [67] [133] [] (.bs 69 TProp false 1 [.d (.s []), .d (.s []), .d (.s [])] [(0, (.t 68))]),
              .an [] [] [130, 134] [67] (.app 70 TProp false 48 (.t 66) (.t 69)),
              .ia 71 5 (.t 60) (.t 61),
              .fa 72 (.t 71) 4,
              .an [] [] [134] [67] (.st 1 (.t 72) (.t 70))]) [.keep [3], .drop [130, 133, 134]]))
            (.pre [.keep [17, 3]] (.seq (.r [.bin 74 .eql .num (.t 17) (.c (.d (.i .i64 5))),
              .mv 73 (.t 74),
              .kill [17, 74]])
            (.cond (.t 73)
              (.pre [.kill [73]] (.seq (.r [.mv 5 (.c (.d (.i .i64 0)))])
              (.blk 1 (.pre [.keep [5, 3]] (.loop sl10Any_l0)))))
              (.pre [.kill [73]] (.skip)))))))))))))))))))))
  (.seq (.r [.mv 88 (.t 3),
    .mv 2 (.t 88),
    .ren 67 66,
    .keep [2],
    .drop [67]])
  (.ret))))))⟩
def sl10Path_m : Fn := ⟨2, [.t 4], false,
  .seq (.r [.mv 4 (.c (.nil .str)),
    .opn 4 4 false,
    .kill [4],
    .drop [68]])
  (.seq (.seq (.r [.mv 6 (.t 1),
    .len 7 (.t 6),
    .bin 8 .gtr .num (.t 7) (.c (.d (.i .i64 0))),
    .mv 9 (.t 8),
    .gd 9 true (some 10) (.mv 10 (.t 0)),
    .gd 9 true (some 11) (.call 11 true [0] (.c (.clo sl1Once [])) [(.t 10), (.c (.d (.i .i64 3)))]),
    .gd 9 true (some 12) (.not 12 (.t 11)),
    .kill [6, 7, 8, 10, 11],
    .pick 13 (.t 9) (.t 12) (.c (.d (.b false))),
    .keep [13, 1, 0]])
  (.cond (.t 13)
    (.pre [.kill [13]] (.seq (.r [.bs 14 .str false 0 [.d (.s [])] [],
      .mv 15 (.t 1),
      .mv 16 (.t 0),
      .mv 17 (.t 1),
      .len 18 (.t 17),
      .call 19 true [0] (.c (.clo sl1Below [])) [(.t 16), (.t 18)],
      .ia 20 5 (.t 15) (.t 19),
      .kill [1, 15, 16, 17, 18, 19],
      .fa 21 (.t 20) 0,
      .ld 22 1 false (.t 21),
      .app 23 .str false 16 (.t 14) (.t 22),
      .mv 5 (.t 23),
      .ren 87 69,
      .keep [5, 0],
      .drop [78, 87]])
    (.seq (.seq (.r [.mv 24 (.t 0),
      .call 25 true [0] (.c (.clo sl1Once [])) [(.t 24), (.c (.d (.i .i64 3)))],
      .kill [24]])
    (.cond (.t 25)
      (.pre [.kill [25]] (.r [.mv 26 (.t 5),
        .mv 27 (.t 0),
        .call 28 true [0] (.c (.clo sl2Name [])) [(.t 27)],
        .bs 29 .str false 1 [.d (.s [])] [(0, (.t 28))],
        .app 30 .str false 16 (.t 26) (.t 29),
        .kill [0, 5, 26, 27, 28, 29],
        .mv 5 (.t 30),
        .ren 94 69,
        .keep [5],
        .drop [93, 94]]))
      (.pre [.keep [5]] (.skip))))
    (.seq (.r [.mv 31 (.t 5),
      .mv 4 (.t 31),
      .ren 69 68,
      .keep [4],
      .drop [69]])
    (.ret)))))
    (.pre [.keep [0]] (.skip))))
  (.seq (.r [.mv 32 (.t 0),
    .call 33 false [0] (.c (.clo sl2Draw [])) [(.t 32)],
    .mv 4 (.t 33),
    .ren 34064 68,
    .keep [4],
    .drop [34064]])
  (.ret)))⟩
def sl1Once_m : Fn := ⟨2, [.t 4], false,
  .seq (.r [.mv 4 (.c (.d (.b false))),
    .kill [4]])
  (.seq (.r [.mv 5 (.t 0),
    .mv 6 (.t 1),
    .call 7 true [0] (.c (.clo sl1Below [])) [(.t 5), (.t 6)],
    .bin 8 .eql .num (.t 7) (.c (.d (.i .i64 0))),
    .kill [0, 1, 5, 6, 7],
    .mv 4 (.t 8),
    .keep [4]])
  (.ret))⟩
/-- live: [0, 3]; objects: [0, 67] -/
def sl2Any_l0 : C :=
  .seq (.seq (.r [.mv 18 (.t 3),
          .len 19 (.t 18),
          .mv 20 (.t 0),
          .call 21 true [0] (.c (.clo sl1Below [])) [(.t 20), (.c (.d (.i .i64 2)))],
          .bin 22 .add .num (.c (.d (.i .i64 4))) (.t 21),
          .bin 23 .lss .num (.t 19) (.t 22),
          .keep [23, 3, 0]])
        (.cond (.t 23)
          (.pre [.kill [23]] (.skip))
          (.pre [.keep [3]] (.ex 1))))
        (.blk 2 (.r [.mv 24 (.t 3),
          .bs 25 .str false 1 [.d (.s [])] [(0, (.c (.d (.s [113]))))],
          .app 26 .str false 16 (.t 24) (.t 25),
          .mv 3 (.t 26),
          .ren 90 67,
          .keep [3, 0],
          .drop [89, 90]]))
def sl2Any_m : Fn := ⟨1, [.t 2], false,
  .seq (.r [.mv 2 (.c (.nil .str)),
    .opn 2 2 false,
    .kill [2],
    .drop [66]])
  (.seq (.r [.mv 4 (.t 0),
    .call 5 false [0] (.c (.clo sl2Draw [])) [(.t 4)],
    .mv 3 (.t 5),
    .ren 6064 67,
    .kill [4, 5],
    .drop [6064]])
  (.seq (.seq (.r [.mv 6 (.t 0),
    .call 7 true [0] (.c (.clo sl1Below [])) [(.t 6), (.c (.d (.i .i64 8)))],
    .kill [6]])
  (.blk 0 (.seq (.r [.bin 9 .eql .num (.t 7) (.c (.d (.i .i64 0))),
    .mv 8 (.t 9),
    .kill [9]])
  (.cond (.t 8)
    (.pre [.kill [7, 8]] (.r [.mv 10 (.t 3),
      .mv 11 (.t 0),
      .bs 12 .str false 7 [.d (.s [])] [(0, (.c (.d (.s [])))), (1, (.c (.d (.s [46])))), (2, (.c (.d (.s [46, 46])))), (3, (.c (.d (.s [97, 47, 98])))), (4, (.c (.d (.s [110, 105, 110, 101, 98, 121, 116, 101, 115])))), (5, (.c (.d (.s [31])))), (6, (.c (.d (.s [101, 105, 103, 104, 116, 98, 121, 56]))))],
      .frz 12,
      .call 13 true [0] (.c (.clo sl1Str [])) [(.t 11), (.t 12)],
      .bs 14 .str false 1 [.d (.s [])] [(0, (.t 13))],
      .kill [0, 3, 11, 12, 13],
      .app 15 .str false 16 (.t 10) (.t 14),
      .mv 3 (.t 15),
      .ren 79 67,
      .keep [3],
      .drop [76, 78, 79]]))
    (.pre [.kill [8]] (.seq (.r [.bin 17 .eql .num (.t 7) (.c (.d (.i .i64 1))),
      .mv 16 (.t 17),
      .kill [7, 17]])
    (.cond (.t 16)
      (.pre [.kill [16]] (.blk 1 (.pre [.keep [3, 0]] (.loop sl2Any_l0))))
      (.pre [.keep [3]] (.skip)))))))))
  (.seq (.r [.mv 27 (.t 3),
    .mv 2 (.t 27),
    .ren 67 66,
    .keep [2],
    .drop [67]])
  (.ret))))⟩
def sl11Ver_m : Fn := ⟨1, [.t 2], false,
  .seq (.r [.mv 2 (.c (.d (.i .i64 0))),
    .kill [2]])
  (.seq (.r [.mv 3 (.t 0),
    .bs 4 (.int .i64) false 6 [.d (.i .i64 0)] [(0, (.c (.d (.i .i64 5)))), (1, (.c (.d (.i .i64 6)))), (2, (.c (.d (.i .i64 7)))), (3, (.c (.d (.i .i64 99999)))), (4, (.c (.d (.i .i64 100000)))), (5, (.c (.d (.i .i64 (-1)))))],
    .frz 4,
    .call 5 true [0] (.c (.clo sl1Int [])) [(.t 3), (.t 4)],
    .mv 2 (.t 5),
    .keep [2],
    .drop [68]])
  (.ret))⟩
/-- live: [1, 12, 13, 14]; objects: [] -/
def iopForm_l0 : C :=
  .seq (.r [.bin 15 .lss .num (.t 14) (.t 13)])
    (.seq (.cond (.t 15)
      (.pre [.kill [15]] (.skip))
      (.pre [.keep [1]] (.ex 0)))
    (.seq (.blk 1 (.seq (.r [.ia 16 1 (.t 12) (.t 14),
      .ld 17 1 false (.t 16),
      .mv 8 (.t 17),
      .kill [16, 17]])
    (.seq (.r [.mv 18 (.t 8),
      .call 19 true [] (.c (.clo iPathOk [])) [(.t 18)],
      .not 20 (.t 19),
      .kill [8, 18, 19]])
    (.cond (.t 20)
      (.pre [.keep []] (.seq (.r [.mv 6 (.c (.d (.i .i64 400)))])
      (.ret)))
      (.pre [.kill [20]] (.skip))))))
    (.r [.bin 21 .add .num (.t 14) (.c (.d (.i .i64 1))),
      .mv 14 (.t 21),
      .kill [21]])))
def iopForm_m : Fn := ⟨3, [.t 6], false,
  .seq (.r [.mv 6 (.c (.d (.i .i64 0))),
    .kill [6]])
  (.seq (.seq (.r [.mv 9 (.t 0),
    .call 10 true [] (.c (.clo iTreeOk [])) [(.t 9)],
    .not 11 (.t 10),
    .kill [0, 9, 10]])
  (.cond (.t 11)
    (.pre [.keep []] (.seq (.r [.mv 6 (.c (.d (.i .i64 500)))])
    (.ret)))
    (.pre [.kill [11]] (.skip))))
  (.seq (.seq (.r [.mv 12 (.t 2),
    .len 13 (.t 12),
    .mv 14 (.c (.d (.i .i64 0))),
    .kill [2]])
  (.blk 0 (.pre [.keep [14, 13, 12, 1]] (.loop iopForm_l0))))
  (.seq (.seq (.r [.mv 22 (.t 1),
    .call 23 true [] (.c (.clo iin [])) [(.t 22), (.c (.d (.i .i64 0))), (.c (.d (.i .i64 99999)))],
    .not 24 (.t 23),
    .keep [24]])
  (.cond (.t 24)
    (.pre [.keep []] (.seq (.r [.mv 6 (.c (.d (.i .i64 507)))])
    (.ret)))
    (.pre [.keep []] (.skip))))
  (.seq (.r [.mv 6 (.c (.d (.i .i64 0)))])
  (.ret)))))⟩
/-- live: [3, 6, 7, 8]; objects: [67] -/
def icopyTree_l0 : C :=
  .seq (.r [.bin 9 .lss .num (.t 8) (.t 7)])
    (.seq (.cond (.t 9)
      (.pre [.kill [9]] (.skip))
      (.pre [.keep [3]] (.ex 0)))
    (.seq (.blk 1 (.seq (.r [.ia 10 5 (.t 6) (.t 8),
      .ld 11 5 true (.t 10),
      .al 5 TRes true,
      .st 5 (.t 5) (.t 11),
      .kill [10, 11]])
    (.r [.mv 12 (.t 3),
      .ld 13 5 true (.t 5),
      .call 14 false [] (.c (.clo icopyRes [])) [(.t 13)],
      .bs 15 TRes false 1 [.nil .str, .d (.b false), .d (.s []), .d (.i .i64 0), .nil TProp] [(0, (.t 14))],
      .app 16 TRes false 80 (.t 12) (.t 15),
      .kill [3, 5, 12, 13, 14, 15],
      .mv 3 (.t 16),
      .ren 80 67,
      .keep [8, 7, 6, 3],
      .drop [69, 79, 80, 15064, 15068]])))
    (.r [.bin 17 .add .num (.t 8) (.c (.d (.i .i64 1))),
      .mv 8 (.t 17),
      .kill [17]])))
def icopyTree_m : Fn := ⟨1, [.t 2], false,
  .seq (.r [.mv 2 (.c (.nil TRes)),
    .opn 2 2 false,
    .kill [2],
    .drop [66]])
  (.seq (.r [.mv 3 (.c (.nil TRes)),
    .opn 3 3 false])
  (.seq (.seq (.r [.mv 6 (.t 0),
    .len 7 (.t 6),
    .mv 8 (.c (.d (.i .i64 0))),
    .kill [0]])
  (.blk 0 (.pre [.keep [8, 7, 6, 3]] (.loop icopyTree_l0))))
  (.seq (.r [.mv 18 (.t 3),
    .mv 2 (.t 18),
    .ren 67 66,
    .keep [2],
    .drop [67]])
  (.ret))))⟩
/-- live: [1, 2, 4, 12, 13, 66, 67, 68]; objects: [67064] -/
def icopied_l0 : C :=
  .seq (.r [.bin 69 .lss .num (.t 68) (.t 67)])
    (.seq (.cond (.t 69)
      (.pre [.kill [69]] (.skip))
      (.pre [.keep [13, 12], .drop [67064]] (.ex 1)))
    (.seq (.blk 2 (.seq (.r [.ia 70 5 (.t 66) (.t 68),
      .ldt 71 5 true (.t 70),
      .al 15 TRes false,
      .st 5 (.t 15) (.t 71),
      .kill [70, 71],
      .drop [72064, 72068]])
    (.seq (.post (.r [.mv 72 (.t 2),
      .an [] [] [74064] [] (.call 73 false [] (.c (.clo icopyPath [])) [(.t 72)]),
      .an [74064] [] [] [] (.fa 74 (.t 15) 0),
      .an [74064] [] [] [] (.ld 75 1 false (.t 74)),
      .an [74064] [] [] [] (.mv 76 (.t 1)),
      .an [74064] [] [] [] (.len 77 (.t 76)),
      .an [74064] [] [] [] (.slc 78 1 (.t 75) (some (.t 77)) none),
      .an [] [] [143, 74064] [] (.app 79 .str false 16 (.t 73) (.t 78)),
      .fa 80 (.t 15) 0,
      .an [] [] [143] [79] (.st 1 (.t 80) (.t 79))]) [.kill [72, 73, 74, 75, 76, 77, 78, 79, 80], .drop [143, 74064]])
    (.seq (.r [.mv 81 (.t 4),
      .fa 82 (.t 15) 3,
      .st 1 (.t 82) (.t 81),
      .kill [81, 82]])
    (.seq (.seq (.r [.fa 83 (.t 15) 0,
      .ld 84 1 false (.t 83),
      .call 85 true [] (.c (.clo iPathOk [])) [(.t 84)],
      .not 86 (.t 85),
      .kill [83, 84, 85]])
    (.cond (.t 86)
      (.pre [.keep [], .drop [79, 67064]] (.seq (.r [.mv 10 (.c (.nil TRes)),
        .frz 10,
        .mv 11 (.c (.d (.i .i64 409)))])
      (.ret)))
      (.pre [.kill [86]] (.skip))))
    (.r [.mv 87 (.t 13),
      .frz 15,
      .ld 88 5 true (.t 15),
      .call 89 true [] (.c (.clo iwithRes [])) [(.t 87), (.t 88)],
      .mv 13 (.t 89),
      .frz 13,
      .kill [15, 87, 88, 89],
      .drop [79]]))))))
    (.r [.bin 90 .add .num (.t 68) (.c (.d (.i .i64 1))),
      .mv 68 (.t 90),
      .kill [90]])))
def icopied_m : Fn := ⟨5, [.t 10, .t 11], true,
  .seq (.r [.mv 10 (.c (.nil TRes)),
    .frz 10,
    .mv 11 (.c (.d (.i .i64 0))),
    .kill [10, 11]])
  (.seq (.r [.mv 16 (.t 0),
    .mv 17 (.t 2),
    .call 18 true [] (.c (.clo iFindRes [])) [(.t 16), (.t 17)],
    .bin 19 .geq .num (.t 18) (.c (.d (.i .i64 0))),
    .mv 12 (.t 19),
    .kill [16, 17, 18, 19]])
  (.seq (.blk 0 (.seq (.r [.mv 21 (.t 1),
    .len 22 (.t 21),
    .bin 23 .gtr .num (.t 22) (.c (.d (.i .i64 0))),
    .mv 24 (.t 23),
    .gd 24 true (some 25) (.mv 25 (.t 0)),
    .gd 24 true (some 26) (.mv 26 (.t 1)),
    .gd 24 true (some 27) (.call 27 true [] (.c (.clo iFindRes [])) [(.t 25), (.t 26)]),
    .kill [21, 22, 23, 25, 26],
    .gd 24 true (some 28) (.bin 28 .lss .num (.t 27) (.c (.d (.i .i64 0)))),
    .pick 29 (.t 24) (.t 28) (.c (.d (.b false))),
    .mv 20 (.t 29),
    .keep [20, 12, 4, 3, 2, 1, 0]])
  (.cond (.t 20)
    (.pre [.keep []] (.seq (.r [.mv 10 (.c (.nil TRes)),
      .frz 10,
      .mv 11 (.c (.d (.i .i64 404)))])
    (.ret)))
    (.pre [.kill [20]] (.seq (.r [.mv 31 (.t 1),
      .len 32 (.t 31),
      .bin 33 .eql .num (.t 32) (.c (.d (.i .i64 0))),
      .mv 34 (.t 33),
      .gd 34 false (some 35) (.mv 35 (.t 2)),
      .gd 34 false (some 36) (.len 36 (.t 35)),
      .gd 34 false (some 37) (.bin 37 .eql .num (.t 36) (.c (.d (.i .i64 0)))),
      .kill [31, 32, 33, 35, 36],
      .pick 38 (.t 34) (.c (.d (.b true))) (.t 37),
      .mv 39 (.t 38),
      .gd 39 false (some 40) (.mv 40 (.t 1)),
      .gd 39 false (some 41) (.mv 41 (.t 2)),
      .gd 39 false (some 42) (.call 42 true [] (.c (.clo iisAt [])) [(.t 40), (.t 41)]),
      .kill [34, 37, 38, 40, 41],
      .pick 43 (.t 39) (.c (.d (.b true))) (.t 42),
      .mv 44 (.t 43),
      .gd 44 false (some 45) (.mv 45 (.t 2)),
      .gd 44 false (some 46) (.mv 46 (.t 1)),
      .gd 44 false (some 47) (.call 47 true [] (.c (.clo iisAt [])) [(.t 45), (.t 46)]),
      .kill [39, 42, 43, 45, 46],
      .pick 48 (.t 44) (.c (.d (.b true))) (.t 47),
      .mv 30 (.t 48),
      .keep [30, 12, 4, 3, 2, 1, 0]])
    (.cond (.t 30)
      (.pre [.keep []] (.seq (.r [.mv 10 (.c (.nil TRes)),
        .frz 10,
        .mv 11 (.c (.d (.i .i64 403)))])
      (.ret)))
      (.pre [.kill [30]] (.seq (.r [.mv 50 (.t 12),
        .mv 51 (.t 50),
        .gd 51 true (some 52) (.mv 52 (.t 3)),
        .gd 51 true (some 53) (.not 53 (.t 52)),
        .pick 54 (.t 51) (.t 53) (.c (.d (.b false))),
        .kill [3, 50, 51, 52, 53],
        .mv 49 (.t 54),
        .kill [3, 50, 51, 52, 53, 54]])
      (.cond (.t 49)
        (.pre [.keep []] (.seq (.r [.mv 10 (.c (.nil TRes)),
          .frz 10,
          .mv 11 (.c (.d (.i .i64 412)))])
        (.ret)))
        (.pre [.kill [49]] (.seq (.r [.mv 56 (.t 0),
          .mv 57 (.t 2),
          .call 58 true [] (.c (.clo iAbove [])) [(.t 57)],
          .call 59 true [] (.c (.clo iIsColl [])) [(.t 56), (.t 58)],
          .not 60 (.t 59),
          .mv 55 (.t 60),
          .kill [56, 57, 58, 59, 60]])
        (.cond (.t 55)
          (.pre [.keep []] (.seq (.r [.mv 10 (.c (.nil TRes)),
            .frz 10,
            .mv 11 (.c (.d (.i .i64 409)))])
          (.ret)))
          (.pre [.kill [55]] (.skip))))))))))))))
  (.seq (.r [.mv 61 (.t 0),
    .mv 62 (.t 2),
    .call 63 true [] (.c (.clo iwithout [])) [(.t 61), (.t 62)],
    .mv 13 (.t 63),
    .frz 13,
    .kill [61, 62, 63]])
  (.seq (.seq (.r [.mv 64 (.t 0),
    .mv 65 (.t 1),
    .call 66 false [] (.c (.clo iDeepOf [])) [(.t 64), (.t 65)],
    .len 67 (.t 66),
    .mv 68 (.c (.d (.i .i64 0))),
    .kill [0, 64, 65]])
  (.blk 1 (.pre [.keep [68, 67, 66, 13, 12, 4, 2, 1]] (.loop icopied_l0))))
  (.seq (.seq (.r [.mv 91 (.t 12),
    .kill [12]])
  (.cond (.t 91)
    (.pre [.kill [91]] (.seq (.r [.mv 92 (.t 13),
      .mv 10 (.t 92),
      .frz 10,
      .mv 11 (.c (.d (.i .i64 204))),
      .kill [13, 92]])
    (.ret)))
    (.pre [.kill [91]] (.skip))))
  (.seq (.r [.mv 93 (.t 13),
    .mv 10 (.t 93),
    .frz 10,
    .mv 11 (.c (.d (.i .i64 201))),
    .kill [13, 93]])
  (.ret)))))))⟩
/-- live: [1, 2, 4, 16, 17, 18, 19]; objects: [82] -/
def sl11Far_l0 : C :=
  .seq (.seq (.r [.mv 128 (.t 19),
      .mv 129 (.t 17),
      .len 130 (.t 129),
      .bin 131 .lss .num (.t 128) (.t 130),
      .kill [128, 129, 130]])
    (.cond (.t 131)
      (.pre [.kill [131]] (.skip))
      (.pre [.keep [18, 16]] (.ex 1))))
    (.seq (.blk 2 (.seq (.r [.mv 134 (.t 17),
      .mv 135 (.t 19),
      .ia 136 5 (.t 134) (.t 135),
      .ld 137 5 true (.t 136),
      .call 138 false [] (.c (.clo sl10Copy [])) [(.t 137)],
      .al 20 TRes false,
      .st 5 (.t 20) (.t 138),
      .kill [134, 135, 136, 137, 138],
      .drop [139064, 139068]])
    (.seq (.post (.r [.an [] [] [203] [] (.bs 139 .str false 0 [.d (.s [])] []),
      .an [203] [] [] [] (.mv 140 (.t 2)),
      .an [] [] [203, 205] [] (.app 141 .str false 16 (.t 139) (.t 140)),
      .an [203, 205] [] [] [] (.mv 142 (.t 17)),
      .an [203, 205] [] [] [] (.mv 143 (.t 19)),
      .an [203, 205] [] [] [] (.ia 144 5 (.t 142) (.t 143)),
      .an [203, 205] [] [] [] (.fa 145 (.t 144) 0),
      .an [203, 205] [] [] [] (.ld 146 1 false (.t 145)),
      .an [203, 205] [] [] [] (.mv 147 (.t 1)),
      .an [203, 205] [] [] [] (.len 148 (.t 147)),
      .an [203, 205] [] [] [] (.slc 149 1 (.t 146) (some (.t 148)) none),
      .an [] [] [205, 214] [] (.app 150 .str false 16 (.t 141) (.t 149)),
      .fa 151 (.t 20) 0,
      .an [] [] [214] [84] (.st 1 (.t 151) (.t 150))]) [.keep [20, 19, 18, 17, 16, 4, 2, 1], .drop [203, 205, 214]])
    (.seq (.r [.mv 152 (.t 4),
      .fa 153 (.t 20) 3,
      .st 1 (.t 153) (.t 152),
      .kill [152, 153]])
    (.r [.mv 154 (.t 18),
      .ld 155 5 true (.t 20),
      .call 156 false [] (.c (.clo sl11Put [])) [(.t 154), (.t 155)],
      .mv 18 (.t 156),
      .ren 157064 82,
      .kill [20, 154, 155, 156],
      .drop [84, 157064]])))))
    (.r [.mv 132 (.t 19),
      .bin 133 .add .num (.t 132) (.c (.d (.i .i64 1))),
      .mv 19 (.t 133),
      .kill [132, 133]]))
def sl11Far_m : Fn := ⟨6, [.t 12, .t 13], false,
  .seq (.r [.mv 12 (.c (.nil TRes)),
    .opn 12 12 false,
    .mv 13 (.c (.d (.i .i64 0))),
    .kill [12, 13],
    .drop [76]])
  (.seq (.r [.mv 21 (.t 0),
    .mv 22 (.t 1),
    .mv 23 (.t 4),
    .call 24 true [] (.c (.clo sl11May [])) [(.t 21), (.t 22), (.t 23)],
    .mv 14 (.t 24),
    .kill [21, 22, 23, 24]])
  (.seq (.seq (.r [.mv 25 (.t 14),
    .bin 26 .eql .num (.t 25) (.c (.d (.i .i64 0))),
    .mv 27 (.t 26),
    .gd 27 false (some 28) (.mv 28 (.t 14)),
    .gd 27 false (some 29) (.bin 29 .eql .num (.t 28) (.c (.d (.i .i64 507)))),
    .pick 30 (.t 27) (.c (.d (.b true))) (.t 29),
    .kill [25, 26, 27, 28, 29]])
  (.cond (.t 30)
    (.pre [.kill [30]] (.seq (.r [.mv 31 (.t 0),
      .mv 32 (.t 2),
      .mv 33 (.t 4),
      .call 34 true [] (.c (.clo sl11May [])) [(.t 31), (.t 32), (.t 33)],
      .mv 15 (.t 34),
      .kill [31, 32, 33, 34]])
    (.seq (.r [.mv 35 (.t 15),
      .bin 36 .neq .num (.t 35) (.c (.d (.i .i64 0))),
      .mv 37 (.t 36),
      .gd 37 true (some 38) (.mv 38 (.t 14)),
      .gd 37 true (some 39) (.bin 39 .eql .num (.t 38) (.c (.d (.i .i64 0)))),
      .gd 37 true (some 40) (.mv 40 (.t 39)),
      .gd 40 false (some 41) (.mv 41 (.t 15)),
      .gd 40 false (some 42) (.mv 42 (.t 14)),
      .gd 40 false (some 43) (.bin 43 .lss .num (.t 41) (.t 42)),
      .kill [35, 36, 38, 39, 41, 42],
      .gd 37 true (some 44) (.pick 44 (.t 40) (.c (.d (.b true))) (.t 43)),
      .pick 45 (.t 37) (.t 44) (.c (.d (.b false))),
      .keep [45, 15, 14, 5, 4, 3, 2, 1, 0]])
    (.cond (.t 45)
      (.pre [.kill [14, 45]] (.r [.mv 46 (.t 15),
        .mv 14 (.t 46),
        .kill [15, 46]]))
      (.pre [.kill [15, 45]] (.skip))))))
    (.pre [.kill [30]] (.skip))))
  (.seq (.r [.mv 47 (.t 0),
    .mv 48 (.t 2),
    .call 49 true [] (.c (.clo sFindRes [])) [(.t 47), (.t 48)],
    .bin 50 .geq .num (.t 49) (.c (.d (.i .i64 0))),
    .mv 16 (.t 50),
    .kill [47, 48, 49, 50]])
  (.seq (.r [.mv 51 (.t 0),
    .mv 52 (.t 1),
    .call 53 true [] (.c (.clo sDeepOf [])) [(.t 51), (.t 52)],
    .mv 17 (.t 53),
    .kill [51, 52, 53]])
  (.seq (.r [.mv 54 (.t 0),
    .mv 55 (.t 2),
    .call 56 false [] (.c (.clo sl11Without [])) [(.t 54), (.t 55)],
    .mv 18 (.t 56),
    .ren 57064 82,
    .kill [54, 55, 56],
    .drop [57064]])
  (.seq (.seq (.r [.mv 57 (.t 5),
    .kill [5]])
  (.cond (.t 57)
    (.pre [.kill [57]] (.r [.mv 58 (.t 18),
      .mv 59 (.t 1),
      .call 60 false [] (.c (.clo sl11Without [])) [(.t 58), (.t 59)],
      .mv 18 (.t 60),
      .ren 61064 82,
      .kill [58, 59, 60],
      .drop [61064]]))
    (.pre [.kill [57]] (.skip))))
  (.seq (.blk 0 (.seq (.r [.mv 62 (.t 14),
    .bin 63 .neq .num (.t 62) (.c (.d (.i .i64 0))),
    .mv 61 (.t 63),
    .kill [62, 63]])
  (.cond (.t 61)
    (.pre [.kill [3, 61]] (.skip))
    (.pre [.kill [61]] (.seq (.r [.mv 65 (.t 1),
      .len 66 (.t 65),
      .bin 67 .gtr .num (.t 66) (.c (.d (.i .i64 0))),
      .mv 68 (.t 67),
      .gd 68 true (some 69) (.mv 69 (.t 0)),
      .gd 68 true (some 70) (.mv 70 (.t 1)),
      .gd 68 true (some 71) (.call 71 true [] (.c (.clo sFindRes [])) [(.t 69), (.t 70)]),
      .kill [65, 66, 67, 69, 70],
      .gd 68 true (some 72) (.bin 72 .lss .num (.t 71) (.c (.d (.i .i64 0)))),
      .pick 73 (.t 68) (.t 72) (.c (.d (.b false))),
      .mv 64 (.t 73),
      .kill [65, 66, 67, 68, 69, 70, 71, 72, 73]])
    (.cond (.t 64)
      (.pre [.kill [3, 14, 64]] (.r [.mv 14 (.c (.d (.i .i64 404)))]))
      (.pre [.kill [64]] (.seq (.r [.mv 75 (.t 1),
        .len 76 (.t 75),
        .bin 77 .eql .num (.t 76) (.c (.d (.i .i64 0))),
        .mv 78 (.t 77),
        .gd 78 false (some 79) (.mv 79 (.t 2)),
        .gd 78 false (some 80) (.len 80 (.t 79)),
        .gd 78 false (some 81) (.bin 81 .eql .num (.t 80) (.c (.d (.i .i64 0)))),
        .kill [75, 76, 77, 79, 80],
        .pick 82 (.t 78) (.c (.d (.b true))) (.t 81),
        .mv 83 (.t 82),
        .gd 83 false (some 84) (.mv 84 (.t 1)),
        .gd 83 false (some 85) (.mv 85 (.t 2)),
        .gd 83 false (some 86) (.call 86 true [] (.c (.clo sSamePath [])) [(.t 84), (.t 85)]),
        .kill [78, 81, 82, 84, 85],
        .pick 87 (.t 83) (.c (.d (.b true))) (.t 86),
        .mv 88 (.t 87),
        .gd 88 false (some 89) (.mv 89 (.t 1)),
        .gd 88 false (some 90) (.mv 90 (.t 2)),
        .gd 88 false (some 91) (.call 91 true [] (.c (.clo sUnder [])) [(.t 89), (.t 90)]),
        .kill [83, 86, 87, 89, 90],
        .pick 92 (.t 88) (.c (.d (.b true))) (.t 91),
        .mv 93 (.t 92),
        .gd 93 false (some 94) (.mv 94 (.t 2)),
        .gd 93 false (some 95) (.mv 95 (.t 1)),
        .gd 93 false (some 96) (.call 96 true [] (.c (.clo sUnder [])) [(.t 94), (.t 95)]),
        .kill [88, 91, 92, 94, 95],
        .pick 97 (.t 93) (.c (.d (.b true))) (.t 96),
        .mv 74 (.t 97),
        .keep [74, 18, 17, 16, 14, 4, 3, 2, 1, 0]])
      (.cond (.t 74)
        (.pre [.kill [3, 14, 74]] (.r [.mv 14 (.c (.d (.i .i64 403)))]))
        (.pre [.kill [74]] (.seq (.r [.mv 99 (.t 16),
          .mv 100 (.t 99),
          .gd 100 true (some 101) (.mv 101 (.t 3)),
          .gd 100 true (some 102) (.not 102 (.t 101)),
          .pick 103 (.t 100) (.t 102) (.c (.d (.b false))),
          .kill [3, 99, 100, 101, 102],
          .mv 98 (.t 103),
          .kill [3, 99, 100, 101, 102, 103]])
        (.cond (.t 98)
          (.pre [.kill [14, 98]] (.r [.mv 14 (.c (.d (.i .i64 412)))]))
          (.pre [.kill [98]] (.seq (.r [.mv 105 (.t 0),
            .mv 106 (.t 2),
            .call 107 true [] (.c (.clo sAbove [])) [(.t 106)],
            .call 108 true [] (.c (.clo sIsColl [])) [(.t 105), (.t 107)],
            .not 109 (.t 108),
            .mv 110 (.t 109),
            .kill [105, 106, 107, 108, 109],
            .gd 110 false (some 111) (.mv 111 (.t 17)),
            .gd 110 false (some 112) (.mv 112 (.t 1)),
            .gd 110 false (some 113) (.mv 113 (.t 2)),
            .gd 110 false (some 114) (.call 114 true [] (.c (.clo sl11Long [])) [(.t 111), (.t 112), (.t 113)]),
            .pick 115 (.t 110) (.c (.d (.b true))) (.t 114),
            .kill [110, 111, 112, 113, 114],
            .mv 104 (.t 115),
            .keep [104, 18, 17, 16, 14, 4, 2, 1, 0]])
          (.cond (.t 104)
            (.pre [.kill [14, 104]] (.r [.mv 14 (.c (.d (.i .i64 409)))]))
            (.pre [.kill [104]] (.seq (.r [.mv 117 (.t 18),
              .len 118 (.t 117),
              .mv 119 (.t 17),
              .len 120 (.t 119),
              .bin 121 .add .num (.t 118) (.t 120),
              .bin 122 .gtr .num (.t 121) (.c (.d (.i .i64 12))),
              .kill [117, 118, 119, 120, 121],
              .mv 116 (.t 122),
              .kill [117, 118, 119, 120, 121, 122]])
            (.cond (.t 116)
              (.pre [.kill [14, 116]] (.r [.mv 14 (.c (.d (.i .i64 507)))]))
              (.pre [.kill [116]] (.skip))))))))))))))))))))
  (.seq (.seq (.r [.mv 123 (.t 14),
    .bin 124 .neq .num (.t 123) (.c (.d (.i .i64 0))),
    .kill [123]])
  (.cond (.t 124)
    (.pre [.keep [14, 0], .drop [82]] (.seq (.r [.mv 125 (.t 0),
      .call 126 false [] (.c (.clo sl10CopyAll [])) [(.t 125)],
      .mv 127 (.t 14),
      .mv 12 (.t 126),
      .ren 127064 76,
      .mv 13 (.t 127),
      .keep [13, 12],
      .drop [127064]])
    (.ret)))
    (.pre [.kill [0, 14, 124]] (.skip))))
  (.seq (.seq (.r [.mv 19 (.c (.d (.i .i64 0)))])
  (.blk 1 (.pre [.keep [19, 18, 17, 16, 4, 2, 1]] (.loop sl11Far_l0))))
  (.seq (.seq (.r [.mv 157 (.t 16),
    .kill [16]])
  (.cond (.t 157)
    (.pre [.kill [157]] (.seq (.r [.mv 158 (.t 18),
      .mv 12 (.t 158),
      .ren 82 76,
      .mv 13 (.c (.d (.i .i64 204))),
      .kill [18, 158],
      .drop [82]])
    (.ret)))
    (.pre [.kill [157]] (.skip))))
  (.seq (.r [.mv 159 (.t 18),
    .mv 12 (.t 159),
    .ren 82 76,
    .mv 13 (.c (.d (.i .i64 201))),
    .kill [18, 159],
    .drop [82]])
  (.ret))))))))))))⟩
/-- live: [1, 5, 8, 9, 10]; objects: [69] -/
def iwithout_l0 : C :=
  .seq (.r [.bin 11 .lss .num (.t 10) (.t 9)])
    (.seq (.cond (.t 11)
      (.pre [.kill [11]] (.skip))
      (.pre [.keep [5]] (.ex 0)))
    (.seq (.blk 1 (.seq (.r [.ia 12 5 (.t 8) (.t 10),
      .ld 13 5 true (.t 12),
      .al 7 TRes true,
      .st 5 (.t 7) (.t 13),
      .kill [12, 13]])
    (.seq (.r [.fa 14 (.t 7) 0,
      .ld 15 1 false (.t 14),
      .mv 16 (.t 1),
      .call 17 true [] (.c (.clo iisAt [])) [(.t 15), (.t 16)],
      .not 18 (.t 17),
      .kill [14, 15, 16, 17]])
    (.cond (.t 18)
      (.pre [.kill [18]] (.r [.mv 19 (.t 5),
        .ld 20 5 true (.t 7),
        .call 21 false [] (.c (.clo icopyRes [])) [(.t 20)],
        .bs 22 TRes false 1 [.nil .str, .d (.b false), .d (.s []), .d (.i .i64 0), .nil TProp] [(0, (.t 21))],
        .app 23 TRes false 80 (.t 19) (.t 22),
        .kill [5, 7, 19, 20, 21, 22],
        .mv 5 (.t 23),
        .ren 87 69,
        .keep [10, 9, 8, 5, 1],
        .drop [71, 86, 87, 22064, 22068]]))
      (.pre [.kill [7, 18], .drop [71]] (.skip))))))
    (.r [.bin 24 .add .num (.t 10) (.c (.d (.i .i64 1))),
      .mv 10 (.t 24),
      .kill [24]])))
def iwithout_m : Fn := ⟨2, [.t 4], false,
  .seq (.r [.mv 4 (.c (.nil TRes)),
    .opn 4 4 false,
    .kill [4],
    .drop [68]])
  (.seq (.r [.mv 5 (.c (.nil TRes)),
    .opn 5 5 false])
  (.seq (.seq (.r [.mv 8 (.t 0),
    .len 9 (.t 8),
    .mv 10 (.c (.d (.i .i64 0))),
    .kill [0]])
  (.blk 0 (.pre [.keep [10, 9, 8, 5, 1]] (.loop iwithout_l0))))
  (.seq (.r [.mv 25 (.t 5),
    .mv 4 (.t 25),
    .ren 69 68,
    .keep [4],
    .drop [69]])
  (.ret))))⟩
def sl1Str_m : Fn := ⟨2, [.t 4], false,
  .seq (.r [.mv 4 (.c (.d (.s []))),
    .kill [4]])
  (.seq (.r [.mv 5 (.t 1),
    .mv 6 (.t 0),
    .mv 7 (.t 1),
    .len 8 (.t 7),
    .call 9 true [0] (.c (.clo sl1Below [])) [(.t 6), (.t 8)],
    .kill [0, 1, 6, 7, 8],
    .ia 10 1 (.t 5) (.t 9),
    .ld 11 1 false (.t 10),
    .mv 4 (.t 11),
    .keep [4]])
  (.ret))⟩
def sl1Below_m : Fn := ⟨2, [.t 4], false,
  .seq (.r [.mv 4 (.c (.d (.i .i64 0))),
    .kill [4]])
  (.seq (.seq (.r [.mv 8 (.t 1),
    .bin 9 .leq .num (.t 8) (.c (.d (.i .i64 0))),
    .kill [8]])
  (.cond (.t 9)
    (.pre [.keep []] (.seq (.r [.mv 4 (.c (.d (.i .i64 0)))])
    (.ret)))
    (.pre [.kill [9]] (.skip))))
  (.seq (.seq (.r [.mv 10 (.t 1),
    .bin 11 .leq .num (.t 10) (.c (.d (.i .i64 256))),
    .kill [10]])
  (.cond (.t 11)
    (.pre [.kill [11]] (.seq (.r [.mv 12 (.t 0),
      .call 13 true [0] (.c (.clo sl1Byte [])) [(.t 12)],
      .mv 14 (.t 1),
      .bin 15 .rem .num (.t 13) (.t 14),
      .kill [0, 1, 12, 13, 14],
      .mv 4 (.t 15),
      .keep [4]])
    (.ret)))
    (.pre [.kill [11]] (.skip))))
  (.seq (.r [.mv 16 (.t 0),
    .call 17 true [0] (.c (.clo sl1Byte [])) [(.t 16)],
    .mv 5 (.t 17),
    .kill [16, 17]])
  (.seq (.r [.mv 18 (.t 0),
    .call 19 true [0] (.c (.clo sl1Byte [])) [(.t 18)],
    .mv 6 (.t 19),
    .kill [18, 19]])
  (.seq (.r [.mv 20 (.t 0),
    .call 21 true [0] (.c (.clo sl1Byte [])) [(.t 20)],
    .mv 7 (.t 21),
    .kill [0, 20, 21]])
  (.seq (.r [.mv 22 (.t 5),
    .bin 23 .mul .num (.t 22) (.c (.d (.i .i64 65536))),
    .mv 24 (.t 6),
    .bin 25 .mul .num (.t 24) (.c (.d (.i .i64 256))),
    .bin 26 .add .num (.t 23) (.t 25),
    .kill [5, 6, 22, 23, 24, 25],
    .mv 27 (.t 7),
    .bin 28 .add .num (.t 26) (.t 27),
    .mv 29 (.t 1),
    .bin 30 .rem .num (.t 28) (.t 29),
    .kill [1, 7, 26, 27, 28, 29],
    .mv 4 (.t 30),
    .keep [4]])
  (.ret)))))))⟩
/-- live: [1, 7, 8, 9]; objects: [] -/
def iFindRes_l0 : C :=
  .seq (.r [.bin 10 .lss .num (.t 9) (.t 8)])
    (.seq (.cond (.t 10)
      (.pre [.kill [10]] (.skip))
      (.pre [.keep []] (.ex 0)))
    (.seq (.blk 1 (.seq (.r [.mv 11 (.t 9),
      .ia 12 5 (.t 7) (.t 9),
      .ld 13 5 true (.t 12),
      .al 6 TRes true,
      .mv 5 (.t 11),
      .st 5 (.t 6) (.t 13),
      .kill [11, 12, 13]])
    (.seq (.r [.fa 14 (.t 6) 0,
      .ld 15 1 false (.t 14),
      .mv 16 (.t 1),
      .call 17 true [] (.c (.clo iSamePath [])) [(.t 15), (.t 16)],
      .kill [6, 14, 15, 16],
      .drop [70]])
    (.cond (.t 17)
      (.pre [.keep [5]] (.seq (.r [.mv 18 (.t 5),
        .mv 4 (.t 18),
        .keep [4]])
      (.ret)))
      (.pre [.kill [5, 17]] (.skip))))))
    (.r [.bin 19 .add .num (.t 9) (.c (.d (.i .i64 1))),
      .mv 9 (.t 19),
      .kill [19]])))
def iFindRes_m : Fn := ⟨2, [.t 4], false,
  .seq (.r [.mv 4 (.c (.d (.i .i64 0))),
    .kill [4]])
  (.seq (.seq (.r [.mv 7 (.t 0),
    .len 8 (.t 7),
    .mv 9 (.c (.d (.i .i64 0))),
    .kill [0]])
  (.blk 0 (.pre [.keep [9, 8, 7, 1]] (.loop iFindRes_l0))))
  (.seq (.r [.mv 4 (.c (.d (.i .i64 (-1))))])
  (.ret)))⟩
def iIsColl_m : Fn := ⟨2, [.t 4], false,
  .seq (.r [.mv 4 (.c (.d (.b false))),
    .kill [4]])
  (.seq (.seq (.r [.mv 6 (.t 1),
    .len 7 (.t 6),
    .bin 8 .eql .num (.t 7) (.c (.d (.i .i64 0))),
    .kill [6, 7]])
  (.cond (.t 8)
    (.pre [.keep []] (.seq (.r [.mv 4 (.c (.d (.b true)))])
    (.ret)))
    (.pre [.kill [8]] (.skip))))
  (.seq (.r [.mv 9 (.t 0),
    .mv 10 (.t 1),
    .call 11 true [] (.c (.clo iFindRes [])) [(.t 9), (.t 10)],
    .mv 5 (.t 11),
    .keep [5, 0]])
  (.seq (.r [.mv 12 (.t 5),
    .bin 13 .geq .num (.t 12) (.c (.d (.i .i64 0))),
    .mv 14 (.t 13),
    .gd 14 true (some 15) (.mv 15 (.t 0)),
    .gd 14 true (some 16) (.mv 16 (.t 5)),
    .gd 14 true (some 17) (.ia 17 5 (.t 15) (.t 16)),
    .kill [0, 5, 12, 13, 15, 16],
    .gd 14 true (some 18) (.fa 18 (.t 17) 1),
    .gd 14 true (some 19) (.ld 19 1 false (.t 18)),
    .pick 20 (.t 14) (.t 19) (.c (.d (.b false))),
    .mv 4 (.t 20),
    .keep [4]])
  (.ret))))⟩
def iAbove_m : Fn := ⟨1, [.t 2], false,
  .seq (.r [.mv 2 (.c (.nil .str)),
    .opn 2 2 false,
    .kill [2],
    .drop [66]])
  (.seq (.seq (.r [.mv 3 (.t 0),
    .len 4 (.t 3),
    .bin 5 .eql .num (.t 4) (.c (.d (.i .i64 0))),
    .kill [3, 4]])
  (.cond (.t 5)
    (.pre [.keep []] (.seq (.r [.mv 2 (.c (.nil .str)),
      .opn 2 2 false])
    (.ret)))
    (.pre [.kill [5]] (.skip))))
  (.seq (.r [.mv 6 (.t 0),
    .mv 7 (.t 0),
    .len 8 (.t 7),
    .bin 9 .sub .num (.t 8) (.c (.d (.i .i64 1))),
    .slc 10 1 (.t 6) none (some (.t 9)),
    .kill [0, 6, 7, 8, 9],
    .call 11 false [] (.c (.clo icopyPath [])) [(.t 10)],
    .mv 2 (.t 11),
    .ren 12064 66,
    .keep [2],
    .drop [12064]])
  (.ret)))⟩
/-- live: [0, 3, 5]; objects: [67] -/
def iwithRes_l0 : C :=
  .seq (.seq (.post (.r [.mv 6 (.t 5),
      .mv 7 (.t 0),
      .len 8 (.t 7),
      .bin 9 .lss .num (.t 6) (.t 8),
      .mv 10 (.t 9),
      .gd 10 true (some 11) (.mv 11 (.t 0)),
      .gd 10 true (some 12) (.mv 12 (.t 5)),
      .gd 10 true (some 13) (.ia 13 5 (.t 11) (.t 12)),
      .gd 10 true (some 14) (.fa 14 (.t 13) 0),
      .gd 10 true (some 15) (.ld 15 1 false (.t 14)),
      .gd 10 true (some 16) (.fa 16 (.t 3) 0),
      .gd 10 true (some 17) (.ld 17 1 false (.t 16)),
      .gd 10 true (some 18) (.call 18 true [] (.c (.clo iLessPath [])) [(.t 15), (.t 17)]),
      .pick 19 (.t 10) (.t 18) (.c (.d (.b false)))]) [.keep [19, 5, 3, 0]])
    (.cond (.t 19)
      (.pre [.kill [19]] (.skip))
      (.pre [.kill [19]] (.ex 0))))
    (.blk 1 (.r [.mv 20 (.t 5),
      .bin 21 .add .num (.t 20) (.c (.d (.i .i64 1))),
      .mv 5 (.t 21),
      .kill [20, 21]]))
def iwithRes_m : Fn := ⟨2, [.t 4], true,
  .seq (.r [.bx 3 TRes true (.t 1),
    .mv 4 (.c (.nil TRes)),
    .frz 4,
    .kill [1, 4]])
  (.seq (.r [.mv 5 (.c (.d (.i .i64 0)))])
  (.seq (.blk 0 (.pre [.keep [5, 3, 0]] (.loop iwithRes_l0)))
  (.seq (.post (.r [.an [91] [] [] [] (.mv 22 (.t 0)),
    .an [91] [] [] [] (.mv 23 (.t 5)),
    .an [91] [] [] [] (.slc 24 5 (.t 22) none (some (.t 23))),
    .an [91] [] [89] [] (.app 25 TRes true 80 (.c (.nil TRes)) (.t 24)),
    .an [89] [] [] [] (.ld 26 5 true (.t 3)),
    .an [89] [] [91] [] (.bs 27 TRes true 1 [.nil .str, .d (.b false), .d (.s []), .d (.i .i64 0), .nil TProp] [(0, (.t 26))]),
    .an [] [] [89, 92] [91] (.app 28 TRes true 80 (.t 25) (.t 27)),
    .an [89, 91, 92] [91] [] [] (.mv 29 (.t 0)),
    .an [89, 91, 92] [91] [] [] (.mv 30 (.t 5)),
    .an [89, 91, 92] [91] [] [] (.slc 31 5 (.t 29) (some (.t 30)) none),
    .an [] [] [92, 96] [] (.app 32 TRes true 80 (.t 28) (.t 31)),
    .mv 4 (.t 32)]) [.frz 4, .keep [4], .drop [67, 89, 91, 92, 96]])
  (.ret))))⟩
def icopyPath_m : Fn := ⟨1, [.t 2], false,
  .seq (.r [.mv 2 (.c (.nil .str)),
    .opn 2 2 false,
    .kill [2],
    .drop [66]])
  (.seq (.r [.mv 3 (.t 0),
    .app 4 .str false 16 (.c (.nil .str)) (.t 3),
    .mv 2 (.t 4),
    .ren 68 66,
    .keep [2],
    .drop [68]])
  (.ret))⟩
def sl11May_m : Fn := ⟨3, [.t 6], false,
  .seq (.r [.mv 6 (.c (.d (.i .i64 0))),
    .kill [6]])
  (.seq (.blk 0 (.seq (.r [.mv 8 (.t 0),
    .call 9 true [] (.c (.clo sTreeOk [])) [(.t 8)],
    .not 10 (.t 9),
    .mv 7 (.t 10),
    .keep [7, 2, 1]])
  (.cond (.t 7)
    (.pre [.keep []] (.seq (.r [.mv 6 (.c (.d (.i .i64 500)))])
    (.ret)))
    (.pre [.kill [7]] (.seq (.r [.mv 12 (.t 1),
      .call 13 true [] (.c (.clo sPathOk [])) [(.t 12)],
      .not 14 (.t 13),
      .mv 11 (.t 14),
      .keep [11, 2]])
    (.cond (.t 11)
      (.pre [.keep []] (.seq (.r [.mv 6 (.c (.d (.i .i64 400)))])
      (.ret)))
      (.pre [.kill [11]] (.seq (.r [.mv 16 (.t 2),
        .call 17 true [] (.c (.clo sl1In [])) [(.t 16), (.c (.d (.i .i64 0))), (.c (.d (.i .i64 99999)))],
        .not 18 (.t 17),
        .mv 15 (.t 18),
        .keep [15]])
      (.cond (.t 15)
        (.pre [.keep []] (.seq (.r [.mv 6 (.c (.d (.i .i64 507)))])
        (.ret)))
        (.pre [.keep []] (.skip)))))))))))
  (.seq (.r [.mv 6 (.c (.d (.i .i64 0)))])
  (.ret)))⟩
/-- live: [0, 1, 5]; objects: [] -/
def sFindRes_l0 : C :=
  .seq (.seq (.r [.mv 6 (.t 5),
      .mv 7 (.t 0),
      .len 8 (.t 7),
      .bin 9 .lss .num (.t 6) (.t 8),
      .kill [6, 7, 8]])
    (.cond (.t 9)
      (.pre [.kill [9]] (.skip))
      (.pre [.keep []] (.ex 0))))
    (.seq (.blk 1 (.seq (.r [.mv 12 (.t 0),
      .mv 13 (.t 5),
      .ia 14 5 (.t 12) (.t 13),
      .fa 15 (.t 14) 0,
      .ld 16 1 false (.t 15),
      .mv 17 (.t 1),
      .call 18 true [] (.c (.clo sSamePath [])) [(.t 16), (.t 17)],
      .keep [18, 5, 1, 0]])
    (.cond (.t 18)
      (.pre [.keep [5]] (.seq (.r [.mv 19 (.t 5),
        .mv 4 (.t 19),
        .keep [4]])
      (.ret)))
      (.pre [.kill [18]] (.skip)))))
    (.r [.mv 10 (.t 5),
      .bin 11 .add .num (.t 10) (.c (.d (.i .i64 1))),
      .mv 5 (.t 11),
      .kill [10, 11]]))
def sFindRes_m : Fn := ⟨2, [.t 4], false,
  .seq (.r [.mv 4 (.c (.d (.i .i64 0))),
    .kill [4]])
  (.seq (.seq (.r [.mv 5 (.c (.d (.i .i64 0)))])
  (.blk 0 (.pre [.keep [5, 1, 0]] (.loop sFindRes_l0))))
  (.seq (.r [.mv 4 (.c (.d (.i .i64 (-1))))])
  (.ret)))⟩
def sIsColl_m : Fn := ⟨2, [.t 4], false,
  .seq (.r [.mv 4 (.c (.d (.b false))),
    .kill [4]])
  (.seq (.r [.mv 6 (.t 0),
    .mv 7 (.t 1),
    .call 8 true [] (.c (.clo sFindRes [])) [(.t 6), (.t 7)],
    .mv 5 (.t 8),
    .kill [6, 7, 8]])
  (.seq (.r [.mv 9 (.t 1),
    .len 10 (.t 9),
    .bin 11 .eql .num (.t 10) (.c (.d (.i .i64 0))),
    .mv 12 (.t 11),
    .gd 12 false (some 13) (.mv 13 (.t 5)),
    .gd 12 false (some 14) (.bin 14 .geq .num (.t 13) (.c (.d (.i .i64 0)))),
    .kill [1, 9, 10, 11, 13],
    .gd 12 false (some 15) (.mv 15 (.t 14)),
    .gd 15 true (some 16) (.mv 16 (.t 0)),
    .gd 15 true (some 17) (.mv 17 (.t 5)),
    .gd 15 true (some 18) (.ia 18 5 (.t 16) (.t 17)),
    .kill [0, 5, 14, 16, 17],
    .gd 15 true (some 19) (.fa 19 (.t 18) 1),
    .gd 15 true (some 20) (.ld 20 1 false (.t 19)),
    .gd 12 false (some 21) (.pick 21 (.t 15) (.t 20) (.c (.d (.b false)))),
    .pick 22 (.t 12) (.c (.d (.b true))) (.t 21),
    .kill [12, 15, 18, 19, 20, 21],
    .mv 4 (.t 22),
    .keep [4]])
  (.ret)))⟩
def sAbove_m : Fn := ⟨1, [.t 2], false,
  .seq (.r [.mv 2 (.c (.nil .str)),
    .opn 2 2 false,
    .kill [2],
    .drop [66]])
  (.seq (.seq (.r [.mv 3 (.t 0),
    .len 4 (.t 3),
    .bin 5 .eql .num (.t 4) (.c (.d (.i .i64 0))),
    .kill [3, 4]])
  (.cond (.t 5)
    (.pre [.keep []] (.seq (.r [.bs 6 .str false 0 [.d (.s [])] [],
      .mv 2 (.t 6),
      .ren 70 66,
      .kill [6],
      .drop [70]])
    (.ret)))
    (.pre [.kill [5]] (.skip))))
  (.seq (.r [.bs 7 .str false 0 [.d (.s [])] [],
    .mv 8 (.t 0),
    .mv 9 (.t 0),
    .len 10 (.t 9),
    .bin 11 .sub .num (.t 10) (.c (.d (.i .i64 1))),
    .slc 12 1 (.t 8) none (some (.t 11)),
    .kill [0, 8, 9, 10, 11],
    .app 13 .str false 16 (.t 7) (.t 12),
    .mv 2 (.t 13),
    .ren 77 66,
    .keep [2],
    .drop [71, 77]])
  (.ret)))⟩
/-- live: [0, 3, 4]; objects: [67] -/
def sl10CopyAll_l0 : C :=
  .seq (.seq (.r [.mv 6 (.t 4),
      .mv 7 (.t 0),
      .len 8 (.t 7),
      .bin 9 .lss .num (.t 6) (.t 8),
      .kill [6, 7, 8]])
    (.cond (.t 9)
      (.pre [.kill [9]] (.skip))
      (.pre [.keep [3]] (.ex 0))))
    (.seq (.blk 1 (.r [.mv 12 (.t 3),
      .mv 13 (.t 0),
      .mv 14 (.t 4),
      .ia 15 5 (.t 13) (.t 14),
      .ld 16 5 true (.t 15),
      .call 17 false [] (.c (.clo sl10Copy [])) [(.t 16)],
      .kill [3, 13, 14, 15, 16],
      .bs 18 TRes false 1 [.nil .str, .d (.b false), .d (.s []), .d (.i .i64 0), .nil TProp] [(0, (.t 17))],
      .app 19 TRes false 80 (.t 12) (.t 18),
      .mv 3 (.t 19),
      .ren 83 67,
      .keep [4, 3, 0],
      .drop [82, 83, 18064, 18068]]))
    (.r [.mv 10 (.t 4),
      .bin 11 .add .num (.t 10) (.c (.d (.i .i64 1))),
      .mv 4 (.t 11),
      .kill [10, 11]]))
def sl10CopyAll_m : Fn := ⟨1, [.t 2], false,
  .seq (.r [.mv 2 (.c (.nil TRes)),
    .opn 2 2 false,
    .kill [2],
    .drop [66]])
  (.seq (.r [.bs 5 TRes false 0 [.nil .str, .d (.b false), .d (.s []), .d (.i .i64 0), .nil TProp] [],
    .mv 3 (.t 5),
    .ren 69 67,
    .kill [5],
    .drop [69]])
  (.seq (.seq (.r [.mv 4 (.c (.d (.i .i64 0)))])
  (.blk 0 (.pre [.keep [4, 3, 0]] (.loop sl10CopyAll_l0))))
  (.seq (.r [.mv 20 (.t 3),
    .mv 2 (.t 20),
    .ren 67 66,
    .keep [2],
    .drop [67]])
  (.ret))))⟩
/-- live: [0, 3, 5, 6, 7]; objects: [67, 69] -/
def sl11Put_l0 : C :=
  .seq (.seq (.r [.mv 9 (.t 7),
      .mv 10 (.t 0),
      .len 11 (.t 10),
      .bin 12 .lss .num (.t 9) (.t 11),
      .kill [9, 10, 11]])
    (.cond (.t 12)
      (.pre [.kill [12]] (.skip))
      (.pre [.kill [0, 7, 12]] (.ex 0))))
    (.seq (.blk 1 (.seq (.seq (.post (.r [.mv 15 (.t 6),
      .not 16 (.t 15),
      .mv 17 (.t 16),
      .gd 17 true (some 18) (.mv 18 (.t 0)),
      .gd 17 true (some 19) (.mv 19 (.t 7)),
      .gd 17 true (some 20) (.ia 20 5 (.t 18) (.t 19)),
      .gd 17 true (some 21) (.fa 21 (.t 20) 0),
      .gd 17 true (some 22) (.ld 22 1 false (.t 21)),
      .gd 17 true (some 23) (.fa 23 (.t 3) 0),
      .gd 17 true (some 24) (.ld 24 1 false (.t 23)),
      .gd 17 true (some 25) (.call 25 true [] (.c (.clo sLessPath [])) [(.t 22), (.t 24)]),
      .gd 17 true (some 26) (.not 26 (.t 25)),
      .pick 27 (.t 17) (.t 26) (.c (.d (.b false)))]) [.keep [27, 7, 6, 5, 3, 0]])
    (.cond (.t 27)
      (.pre [.kill [6, 27]] (.seq (.r [.mv 28 (.t 5),
        .ld 29 5 true (.t 3),
        .call 30 false [] (.c (.clo sl10Copy [])) [(.t 29)],
        .bs 31 TRes false 1 [.nil .str, .d (.b false), .d (.s []), .d (.i .i64 0), .nil TProp] [(0, (.t 30))],
        .app 32 TRes false 80 (.t 28) (.t 31),
        .kill [5, 28, 29, 30, 31],
        .mv 5 (.t 32),
        .ren 96 69,
        .keep [7, 5, 3, 0],
        .drop [95, 96, 31064, 31068]])
      (.r [.mv 6 (.c (.d (.b true)))])))
      (.pre [.kill [27]] (.skip))))
    (.seq (.post (.r [.mv 33 (.t 0),
      .mv 34 (.t 7),
      .ia 35 5 (.t 33) (.t 34),
      .fa 36 (.t 35) 0,
      .ld 37 1 false (.t 36),
      .fa 38 (.t 3) 0,
      .ld 39 1 false (.t 38),
      .call 40 true [] (.c (.clo sSamePath [])) [(.t 37), (.t 39)],
      .not 41 (.t 40)]) [.keep [41, 7, 6, 5, 3, 0]])
    (.cond (.t 41)
      (.pre [.kill [41]] (.r [.mv 42 (.t 5),
        .mv 43 (.t 0),
        .mv 44 (.t 7),
        .ia 45 5 (.t 43) (.t 44),
        .ld 46 5 true (.t 45),
        .call 47 false [] (.c (.clo sl10Copy [])) [(.t 46)],
        .kill [5, 43, 44, 45, 46],
        .bs 48 TRes false 1 [.nil .str, .d (.b false), .d (.s []), .d (.i .i64 0), .nil TProp] [(0, (.t 47))],
        .app 49 TRes false 80 (.t 42) (.t 48),
        .mv 5 (.t 49),
        .ren 113 69,
        .keep [7, 6, 5, 3, 0],
        .drop [112, 113, 48064, 48068]]))
      (.pre [.kill [41]] (.skip))))))
    (.r [.mv 13 (.t 7),
      .bin 14 .add .num (.t 13) (.c (.d (.i .i64 1))),
      .mv 7 (.t 14),
      .kill [13, 14]]))
def sl11Put_m : Fn := ⟨2, [.t 4], false,
  .seq (.r [.bx 3 TRes true (.t 1),
    .mv 4 (.c (.nil TRes)),
    .opn 4 4 false,
    .kill [1, 4],
    .drop [68]])
  (.seq (.r [.bs 8 TRes false 0 [.nil .str, .d (.b false), .d (.s []), .d (.i .i64 0), .nil TProp] [],
    .mv 5 (.t 8),
    .ren 72 69,
    .kill [8],
    .drop [72]])
  (.seq (.r [.mv 6 (.c (.d (.b false)))])
  (.seq (.seq (.r [.mv 7 (.c (.d (.i .i64 0)))])
  (.blk 0 (.pre [.keep [7, 6, 5, 3, 0]] (.loop sl11Put_l0))))
  (.seq (.seq (.r [.mv 50 (.t 6),
    .not 51 (.t 50),
    .kill [6, 50]])
  (.cond (.t 51)
    (.pre [.kill [51]] (.r [.mv 52 (.t 5),
      .ld 53 5 true (.t 3),
      .call 54 false [] (.c (.clo sl10Copy [])) [(.t 53)],
      .bs 55 TRes false 1 [.nil .str, .d (.b false), .d (.s []), .d (.i .i64 0), .nil TProp] [(0, (.t 54))],
      .app 56 TRes false 80 (.t 52) (.t 55),
      .kill [3, 5, 52, 53, 54, 55],
      .mv 5 (.t 56),
      .ren 120 69,
      .keep [5],
      .drop [67, 119, 120, 55064, 55068]]))
    (.pre [.keep [5], .drop [67]] (.skip))))
  (.seq (.r [.mv 57 (.t 5),
    .mv 4 (.t 57),
    .ren 69 68,
    .keep [4],
    .drop [69]])
  (.ret))))))⟩
/-- live: [0, 1, 5, 6]; objects: [69] -/
def sl11Without_l0 : C :=
  .seq (.seq (.r [.mv 8 (.t 6),
      .mv 9 (.t 0),
      .len 10 (.t 9),
      .bin 11 .lss .num (.t 8) (.t 10),
      .kill [8, 9, 10]])
    (.cond (.t 11)
      (.pre [.kill [11]] (.skip))
      (.pre [.keep [5]] (.ex 0))))
    (.seq (.blk 1 (.seq (.r [.mv 14 (.t 0),
      .mv 15 (.t 6),
      .ia 16 5 (.t 14) (.t 15),
      .fa 17 (.t 16) 0,
      .ld 18 1 false (.t 17),
      .mv 19 (.t 1),
      .call 20 true [] (.c (.clo sSamePath [])) [(.t 18), (.t 19)],
      .kill [14, 15, 16, 17, 18, 19],
      .not 21 (.t 20),
      .mv 22 (.t 21),
      .gd 22 true (some 23) (.mv 23 (.t 0)),
      .gd 22 true (some 24) (.mv 24 (.t 6)),
      .gd 22 true (some 25) (.ia 25 5 (.t 23) (.t 24)),
      .gd 22 true (some 26) (.fa 26 (.t 25) 0),
      .kill [20, 21, 23, 24, 25],
      .gd 22 true (some 27) (.ld 27 1 false (.t 26)),
      .gd 22 true (some 28) (.mv 28 (.t 1)),
      .gd 22 true (some 29) (.call 29 true [] (.c (.clo sUnder [])) [(.t 27), (.t 28)]),
      .gd 22 true (some 30) (.not 30 (.t 29)),
      .pick 31 (.t 22) (.t 30) (.c (.d (.b false))),
      .keep [31, 6, 5, 1, 0]])
    (.cond (.t 31)
      (.pre [.kill [31]] (.r [.mv 32 (.t 5),
        .mv 33 (.t 0),
        .mv 34 (.t 6),
        .ia 35 5 (.t 33) (.t 34),
        .ld 36 5 true (.t 35),
        .call 37 false [] (.c (.clo sl10Copy [])) [(.t 36)],
        .kill [5, 33, 34, 35, 36],
        .bs 38 TRes false 1 [.nil .str, .d (.b false), .d (.s []), .d (.i .i64 0), .nil TProp] [(0, (.t 37))],
        .app 39 TRes false 80 (.t 32) (.t 38),
        .mv 5 (.t 39),
        .ren 103 69,
        .keep [6, 5, 1, 0],
        .drop [102, 103, 38064, 38068]]))
      (.pre [.kill [31]] (.skip)))))
    (.r [.mv 12 (.t 6),
      .bin 13 .add .num (.t 12) (.c (.d (.i .i64 1))),
      .mv 6 (.t 13),
      .kill [12, 13]]))
def sl11Without_m : Fn := ⟨2, [.t 4], false,
  .seq (.r [.mv 4 (.c (.nil TRes)),
    .opn 4 4 false,
    .kill [4],
    .drop [68]])
  (.seq (.r [.bs 7 TRes false 0 [.nil .str, .d (.b false), .d (.s []), .d (.i .i64 0), .nil TProp] [],
    .mv 5 (.t 7),
    .ren 71 69,
    .kill [7],
    .drop [71]])
  (.seq (.seq (.r [.mv 6 (.c (.d (.i .i64 0)))])
  (.blk 0 (.pre [.keep [6, 5, 1, 0]] (.loop sl11Without_l0))))
  (.seq (.r [.mv 40 (.t 5),
    .mv 4 (.t 40),
    .ren 69 68,
    .keep [4],
    .drop [69]])
  (.ret))))⟩
def wsameRes_m : Fn := ⟨2, [.t 4], false,
  .seq (.r [.bx 2 TRes true (.t 0),
    .bx 3 TRes true (.t 1),
    .mv 4 (.c (.d (.b false))),
    .keep [3, 2]])
  (.seq (.r [.fa 5 (.t 2) 0,
    .ld 6 1 false (.t 5),
    .fa 7 (.t 3) 0,
    .ld 8 1 false (.t 7),
    .call 9 true [] (.c (.clo wsameTexts [])) [(.t 6), (.t 8)],
    .mv 10 (.t 9),
    .kill [5, 6, 7, 8, 9],
    .gd 10 true (some 11) (.fa 11 (.t 2) 1),
    .gd 10 true (some 12) (.ld 12 1 false (.t 11)),
    .gd 10 true (some 13) (.fa 13 (.t 3) 1),
    .gd 10 true (some 14) (.ld 14 1 false (.t 13)),
    .gd 10 true (some 15) (.bin 15 .eql .flag (.t 12) (.t 14)),
    .pick 16 (.t 10) (.t 15) (.c (.d (.b false))),
    .kill [10, 11, 12, 13, 14, 15],
    .mv 17 (.t 16),
    .gd 17 true (some 18) (.fa 18 (.t 2) 2),
    .gd 17 true (some 19) (.ld 19 1 false (.t 18)),
    .gd 17 true (some 20) (.fa 20 (.t 3) 2),
    .gd 17 true (some 21) (.ld 21 1 false (.t 20)),
    .gd 17 true (some 22) (.bin 22 .eql .num (.t 19) (.t 21)),
    .kill [16, 18, 19, 20, 21],
    .pick 23 (.t 17) (.t 22) (.c (.d (.b false))),
    .mv 24 (.t 23),
    .gd 24 true (some 25) (.fa 25 (.t 2) 3),
    .gd 24 true (some 26) (.ld 26 1 false (.t 25)),
    .gd 24 true (some 27) (.fa 27 (.t 3) 3),
    .gd 24 true (some 28) (.ld 28 1 false (.t 27)),
    .kill [17, 22, 23, 25, 27],
    .gd 24 true (some 29) (.bin 29 .eql .num (.t 26) (.t 28)),
    .pick 30 (.t 24) (.t 29) (.c (.d (.b false))),
    .mv 31 (.t 30),
    .kill [24, 26, 28, 29, 30],
    .gd 31 true (some 32) (.fa 32 (.t 2) 4),
    .gd 31 true (some 33) (.ld 33 1 false (.t 32)),
    .gd 31 true (some 34) (.fa 34 (.t 3) 4),
    .gd 31 true (some 35) (.ld 35 1 false (.t 34)),
    .gd 31 true (some 36) (.call 36 true [] (.c (.clo wsameProps [])) [(.t 33), (.t 35)]),
    .kill [2, 3, 32, 33, 34, 35],
    .pick 37 (.t 31) (.t 36) (.c (.d (.b false))),
    .mv 4 (.t 37),
    .keep [4],
    .drop [66, 67]])
  (.ret))⟩
/-- live: [0, 3, 4]; objects: [0, 67] -/
def sl10Draw_l0 : C :=
  .seq (.seq (.r [.mv 9 (.t 4),
      .bin 10 .gtr .num (.t 9) (.c (.d (.i .i64 0))),
      .kill [9]])
    (.cond (.t 10)
      (.pre [.kill [10]] (.skip))
      (.pre [.keep [3]] (.ex 0))))
    (.seq (.blk 1 (.seq (.r [.mv 13 (.t 0),
      .mv 14 (.t 3),
      .call 15 true [0, 67] (.c (.clo sl10Path [])) [(.t 13), (.t 14)],
      .mv 5 (.t 15),
      .kill [13, 14, 15]])
    (.seq (.seq (.r [.mv 16 (.t 0),
      .call 17 true [0] (.c (.clo sl1Once [])) [(.t 16), (.c (.d (.i .i64 2)))],
      .kill [16]])
    (.cond (.t 17)
      (.pre [.kill [17]] (.r [.mv 19 (.t 3),
        .mv 20 (.t 5),
        .mv 21 (.t 0),
        .call 22 true [0] (.c (.clo sl1Below [])) [(.t 21), (.c (.d (.i .i64 9)))],
        .call 23 false [] (.c (.clo sMakeColl [])) [(.t 19), (.t 20), (.t 22)],
        .kill [3, 5, 19, 20, 21, 22],
        .mv 18 (.t 23),
        .ext 24 (.t 18) 0,
        .ext 25 (.t 18) 1,
        .mv 3 (.t 24),
        .ren 24064 67,
        .keep [4, 3, 0],
        .drop [24064]]))
      (.pre [.kill [17]] (.r [.mv 27 (.t 3),
        .mv 28 (.t 5),
        .mv 29 (.t 0),
        .bs 30 .str false 3 [.d (.s [])] [(0, (.c (.d (.s [])))), (1, (.c (.d (.s [120])))), (2, (.c (.d (.s [104, 101, 108, 108, 111]))))],
        .frz 30,
        .call 31 true [0] (.c (.clo sl1Str [])) [(.t 29), (.t 30)],
        .mv 32 (.t 0),
        .call 33 true [0] (.c (.clo sl1Below [])) [(.t 32), (.c (.d (.i .i64 9)))],
        .kill [3, 5, 29, 30, 32],
        .call 34 false [] (.c (.clo sPutFile [])) [(.t 27), (.t 28), (.t 31), (.t 33)],
        .mv 26 (.t 34),
        .kill [27, 28, 31, 33, 34],
        .ext 35 (.t 26) 0,
        .ext 36 (.t 26) 1,
        .mv 3 (.t 35),
        .ren 35064 67,
        .keep [4, 3, 0],
        .drop [94, 35064]]))))
    (.seq (.r [.mv 37 (.t 3),
      .len 38 (.t 37),
      .bin 39 .gtr .num (.t 38) (.c (.d (.i .i64 0))),
      .mv 40 (.t 39),
      .gd 40 true (some 41) (.mv 41 (.t 0)),
      .gd 40 true (some 42) (.call 42 true [0] (.c (.clo sl1Once [])) [(.t 41), (.c (.d (.i .i64 3)))]),
      .pick 43 (.t 40) (.t 42) (.c (.d (.b false))),
      .keep [43, 4, 3, 0]])
    (.cond (.t 43)
      (.pre [.kill [43]] (.r [.mv 44 (.t 3),
        .mv 45 (.t 0),
        .mv 46 (.t 3),
        .len 47 (.t 46),
        .call 48 true [0] (.c (.clo sl1Below [])) [(.t 45), (.t 47)],
        .mv 49 (.t 0),
        .call 50 false [0] (.c (.clo sl10Props [])) [(.t 49)],
        .ia 51 5 (.t 44) (.t 48),
        .kill [44, 45, 46, 47, 48, 49],
        .fa 52 (.t 51) 4,
        .st 1 (.t 52) (.t 50),
        .keep [4, 3, 0],
        .drop [51064]]))
      (.pre [.kill [43]] (.skip)))))))
    (.r [.mv 11 (.t 4),
      .bin 12 .sub .num (.t 11) (.c (.d (.i .i64 1))),
      .mv 4 (.t 12),
      .kill [11, 12]]))
def sl10Draw_m : Fn := ⟨1, [.t 2], false,
  .seq (.r [.mv 2 (.c (.nil TRes)),
    .opn 2 2 false,
    .kill [2],
    .drop [66]])
  (.seq (.r [.bs 6 TRes false 0 [.nil .str, .d (.b false), .d (.s []), .d (.i .i64 0), .nil TProp] [],
    .mv 3 (.t 6),
    .ren 70 67,
    .kill [6],
    .drop [70]])
  (.seq (.seq (.r [.mv 7 (.t 0),
    .call 8 true [0] (.c (.clo sl1Below [])) [(.t 7), (.c (.d (.i .i64 10)))],
    .mv 4 (.t 8),
    .kill [7, 8]])
  (.blk 0 (.pre [.keep [4, 3, 0]] (.loop sl10Draw_l0))))
  (.seq (.r [.mv 53 (.t 3),
    .mv 2 (.t 53),
    .ren 67 66,
    .keep [2],
    .drop [67]])
  (.ret))))⟩
def sl1Int_m : Fn := ⟨2, [.t 4], false,
  .seq (.r [.mv 4 (.c (.d (.i .i64 0))),
    .kill [4]])
  (.seq (.r [.mv 5 (.t 1),
    .mv 6 (.t 0),
    .mv 7 (.t 1),
    .len 8 (.t 7),
    .call 9 true [0] (.c (.clo sl1Below [])) [(.t 6), (.t 8)],
    .kill [0, 1, 6, 7, 8],
    .ia 10 1 (.t 5) (.t 9),
    .ld 11 1 false (.t 10),
    .mv 4 (.t 11),
    .keep [4]])
  (.ret))⟩
def sl10OneProp_m : Fn := ⟨1, [.cell 2 3 true], false,
  .seq (.r [.al 2 TProp false])
  (.seq (.r [.mv 3 (.t 0),
    .bs 4 .str false 3 [.d (.s [])] [(0, (.c (.d (.s [68, 65, 86, 58])))), (1, (.c (.d (.s [117, 58, 120])))), (2, (.c (.d (.s []))))],
    .frz 4,
    .call 5 true [0] (.c (.clo sl1Str [])) [(.t 3), (.t 4)],
    .mv 6 (.t 0),
    .bs 7 .str false 3 [.d (.s [])] [(0, (.c (.d (.s [97])))), (1, (.c (.d (.s [99, 111, 108, 111, 114])))), (2, (.c (.d (.s [98]))))],
    .frz 7,
    .call 8 true [0] (.c (.clo sl1Str [])) [(.t 6), (.t 7)],
    .mv 9 (.t 0),
    .kill [0, 3, 4, 6, 7],
    .bs 10 .str false 3 [.d (.s [])] [(0, (.c (.d (.s [])))), (1, (.c (.d (.s [114, 101, 100])))), (2, (.c (.d (.s [97, 60, 98]))))],
    .frz 10,
    .call 11 true [0] (.c (.clo sl1Str [])) [(.t 9), (.t 10)],
    .bd 12 [.d (.s []), .d (.s []), .d (.s [])] [(0, 1, (.t 5)), (1, 1, (.t 8)), (2, 1, (.t 11))],
    .kill [5, 8, 9, 10, 11],
    .st 3 (.t 2) (.t 12),
    .keep [2],
    .drop [68, 71, 74]])
  (.ret))⟩
/-- live: [0, 3]; objects: [] -/
def sNumText_l0 : C :=
  .seq (.seq (.r [.mv 12 (.t 0),
      .bin 13 .gtr .num (.t 12) (.c (.d (.i .i64 9))),
      .kill [12]])
    (.cond (.t 13)
      (.pre [.kill [13]] (.skip))
      (.pre [.keep [3]] (.ex 0))))
    (.blk 1 (.seq (.r [.mv 14 (.t 0),
      .bin 15 .quo .num (.t 14) (.c (.d (.i .i64 10))),
      .mv 0 (.t 15),
      .kill [14, 15]])
    (.r [.mv 16 (.t 0),
      .bin 17 .rem .num (.t 16) (.c (.d (.i .i64 10))),
      .bin 18 .add .num (.c (.d (.i .i64 48))) (.t 17),
      .cvi 19 .u8 (.t 18),
      .bs 20 .u8 false 1 [.d (.u 0)] [(0, (.t 19))],
      .b2s 21 (.t 20),
      .kill [16, 17, 18, 19, 20],
      .mv 22 (.t 3),
      .bin 23 .add .num (.t 21) (.t 22),
      .mv 3 (.t 23),
      .keep [3, 0],
      .drop [84]])))
def sNumText_m : Fn := ⟨1, [.t 2], false,
  .seq (.r [.mv 2 (.c (.d (.s []))),
    .kill [2]])
  (.seq (.seq (.r [.mv 4 (.t 0),
    .bin 5 .lss .num (.t 4) (.c (.d (.i .i64 0))),
    .kill [4]])
  (.cond (.t 5)
    (.pre [.keep []] (.r [.mv 0 (.c (.d (.i .i64 0)))]))
    (.pre [.kill [5]] (.skip))))
  (.seq (.r [.mv 6 (.t 0),
    .bin 7 .rem .num (.t 6) (.c (.d (.i .i64 10))),
    .bin 8 .add .num (.c (.d (.i .i64 48))) (.t 7),
    .cvi 9 .u8 (.t 8),
    .bs 10 .u8 false 1 [.d (.u 0)] [(0, (.t 9))],
    .b2s 11 (.t 10),
    .kill [6, 7, 8, 9, 10],
    .mv 3 (.t 11),
    .keep [3, 0],
    .drop [74]])
  (.seq (.blk 0 (.pre [.keep [3, 0]] (.loop sNumText_l0)))
  (.seq (.r [.mv 24 (.t 3),
    .mv 2 (.t 24),
    .keep [2]])
  (.ret)))))⟩
def sl2Name_m : Fn := ⟨1, [.t 2], false,
  .seq (.r [.mv 2 (.c (.d (.s []))),
    .kill [2]])
  (.seq (.r [.mv 3 (.t 0),
    .bs 4 .str false 7 [.d (.s [])] [(0, (.c (.d (.s [97])))), (1, (.c (.d (.s [98])))), (2, (.c (.d (.s [99])))), (3, (.c (.d (.s [97, 32, 98])))), (4, (.c (.d (.s [120, 37, 121])))), (5, (.c (.d (.s [97])))), (6, (.c (.d (.s [98]))))],
    .frz 4,
    .call 5 true [0] (.c (.clo sl1Str [])) [(.t 3), (.t 4)],
    .mv 2 (.t 5),
    .keep [2],
    .drop [68]])
  (.ret))⟩
/-- live: [0, 3, 4]; objects: [0, 67] -/
def sl2Draw_l0 : C :=
  .seq (.seq (.r [.mv 8 (.t 4),
      .bin 9 .gtr .num (.t 8) (.c (.d (.i .i64 0))),
      .kill [8]])
    (.cond (.t 9)
      (.pre [.kill [9]] (.skip))
      (.pre [.keep [3]] (.ex 0))))
    (.seq (.blk 1 (.r [.mv 12 (.t 3),
      .mv 13 (.t 0),
      .call 14 true [0] (.c (.clo sl2Name [])) [(.t 13)],
      .bs 15 .str false 1 [.d (.s [])] [(0, (.t 14))],
      .app 16 .str false 16 (.t 12) (.t 15),
      .kill [3, 12, 13, 14, 15],
      .mv 3 (.t 16),
      .ren 80 67,
      .keep [4, 3, 0],
      .drop [79, 80]]))
    (.r [.mv 10 (.t 4),
      .bin 11 .sub .num (.t 10) (.c (.d (.i .i64 1))),
      .mv 4 (.t 11),
      .kill [10, 11]]))
def sl2Draw_m : Fn := ⟨1, [.t 2], false,
  .seq (.r [.mv 2 (.c (.nil .str)),
    .opn 2 2 false,
    .kill [2],
    .drop [66]])
  (.seq (.r [.bs 5 .str false 0 [.d (.s [])] [],
    .mv 3 (.t 5),
    .ren 69 67,
    .kill [5],
    .drop [69]])
  (.seq (.seq (.r [.mv 6 (.t 0),
    .call 7 true [0] (.c (.clo sl1Below [])) [(.t 6), (.c (.d (.i .i64 4)))],
    .mv 4 (.t 7),
    .kill [6, 7]])
  (.blk 0 (.pre [.keep [4, 3, 0]] (.loop sl2Draw_l0))))
  (.seq (.r [.mv 17 (.t 3),
    .mv 2 (.t 17),
    .ren 67 66,
    .keep [2],
    .drop [67]])
  (.ret))))⟩
def iin_m : Fn := ⟨3, [.t 6], false,
  .seq (.r [.mv 6 (.c (.d (.b false))),
    .kill [6]])
  (.seq (.r [.mv 7 (.t 0),
    .mv 8 (.t 1),
    .bin 9 .geq .num (.t 7) (.t 8),
    .mv 10 (.t 9),
    .gd 10 true (some 11) (.mv 11 (.t 0)),
    .kill [0, 1, 7, 8, 9],
    .gd 10 true (some 12) (.mv 12 (.t 2)),
    .gd 10 true (some 13) (.bin 13 .leq .num (.t 11) (.t 12)),
    .pick 14 (.t 10) (.t 13) (.c (.d (.b false))),
    .kill [2, 10, 11, 12, 13],
    .mv 6 (.t 14),
    .keep [6]])
  (.ret))⟩
/-- live: [0, 5, 6, 7]; objects: [] -/
def iTreeOk_l0 : C :=
  .seq (.r [.bin 8 .lss .num (.t 7) (.t 6)])
    (.seq (.cond (.t 8)
      (.pre [.kill [8]] (.skip))
      (.pre [.keep [0]] (.ex 0)))
    (.seq (.blk 1 (.seq (.r [.mv 9 (.t 7),
      .ia 10 5 (.t 5) (.t 7),
      .ld 11 5 true (.t 10),
      .al 4 TRes true,
      .mv 3 (.t 9),
      .st 5 (.t 4) (.t 11),
      .kill [9, 10, 11]])
    (.seq (.post (.r [.ld 12 5 true (.t 4),
      .call 13 true [] (.c (.clo iresOk [])) [(.t 12)],
      .not 14 (.t 13),
      .mv 15 (.t 14),
      .gd 15 false (some 16) (.mv 16 (.t 3)),
      .gd 15 false (some 17) (.bin 17 .gtr .num (.t 16) (.c (.d (.i .i64 0)))),
      .gd 15 false (some 18) (.mv 18 (.t 17)),
      .gd 18 true (some 19) (.mv 19 (.t 0)),
      .gd 18 true (some 20) (.mv 20 (.t 3)),
      .gd 18 true (some 21) (.bin 21 .sub .num (.t 20) (.c (.d (.i .i64 1)))),
      .gd 18 true (some 22) (.ia 22 5 (.t 19) (.t 21)),
      .gd 18 true (some 23) (.fa 23 (.t 22) 0),
      .gd 18 true (some 24) (.ld 24 1 false (.t 23)),
      .gd 18 true (some 25) (.fa 25 (.t 4) 0),
      .gd 18 true (some 26) (.ld 26 1 false (.t 25)),
      .gd 18 true (some 27) (.call 27 true [] (.c (.clo iLessPath [])) [(.t 24), (.t 26)]),
      .gd 18 true (some 28) (.not 28 (.t 27)),
      .gd 15 false (some 29) (.pick 29 (.t 18) (.t 28) (.c (.d (.b false)))),
      .pick 30 (.t 15) (.c (.d (.b true))) (.t 29),
      .mv 31 (.t 30),
      .gd 31 false (some 32) (.mv 32 (.t 0)),
      .gd 31 false (some 33) (.fa 33 (.t 4) 0),
      .gd 31 false (some 34) (.ld 34 1 false (.t 33)),
      .gd 31 false (some 35) (.call 35 true [] (.c (.clo iAbove [])) [(.t 34)]),
      .gd 31 false (some 36) (.call 36 true [] (.c (.clo iIsColl [])) [(.t 32), (.t 35)]),
      .gd 31 false (some 37) (.not 37 (.t 36)),
      .pick 38 (.t 31) (.c (.d (.b true))) (.t 37)]) [.keep [38, 7, 6, 5, 0], .drop [68]])
    (.cond (.t 38)
      (.pre [.keep []] (.seq (.r [.mv 2 (.c (.d (.b false)))])
      (.ret)))
      (.pre [.kill [38]] (.skip))))))
    (.r [.bin 39 .add .num (.t 7) (.c (.d (.i .i64 1))),
      .mv 7 (.t 39),
      .kill [39]])))
def iTreeOk_m : Fn := ⟨1, [.t 2], false,
  .seq (.r [.mv 2 (.c (.d (.b false))),
    .kill [2]])
  (.seq (.seq (.r [.mv 5 (.t 0),
    .len 6 (.t 5),
    .mv 7 (.c (.d (.i .i64 0)))])
  (.blk 0 (.pre [.keep [7, 6, 5, 0]] (.loop iTreeOk_l0))))
  (.seq (.r [.mv 40 (.t 0),
    .len 41 (.t 40),
    .bin 42 .leq .num (.t 41) (.c (.d (.i .i64 12))),
    .mv 2 (.t 42),
    .keep [2]])
  (.ret)))⟩
/-- live: [0, 5, 6, 7]; objects: [] -/
def iPathOk_l0 : C :=
  .seq (.r [.bin 8 .lss .num (.t 7) (.t 6)])
    (.seq (.cond (.t 8)
      (.pre [.kill [8]] (.skip))
      (.pre [.keep [0]] (.ex 0)))
    (.seq (.blk 1 (.seq (.r [.ia 9 1 (.t 5) (.t 7),
      .ld 10 1 false (.t 9),
      .mv 4 (.t 10),
      .kill [9, 10]])
    (.seq (.r [.mv 11 (.t 4),
      .call 12 true [] (.c (.clo iNameOk [])) [(.t 11)],
      .not 13 (.t 12),
      .kill [4, 11, 12]])
    (.cond (.t 13)
      (.pre [.keep []] (.seq (.r [.mv 2 (.c (.d (.b false)))])
      (.ret)))
      (.pre [.kill [13]] (.skip))))))
    (.r [.bin 14 .add .num (.t 7) (.c (.d (.i .i64 1))),
      .mv 7 (.t 14),
      .kill [14]])))
def iPathOk_m : Fn := ⟨1, [.t 2], false,
  .seq (.r [.mv 2 (.c (.d (.b false))),
    .kill [2]])
  (.seq (.seq (.r [.mv 5 (.t 0),
    .len 6 (.t 5),
    .mv 7 (.c (.d (.i .i64 0)))])
  (.blk 0 (.pre [.keep [7, 6, 5, 0]] (.loop iPathOk_l0))))
  (.seq (.r [.mv 15 (.t 0),
    .len 16 (.t 15),
    .bin 17 .leq .num (.t 16) (.c (.d (.i .i64 4))),
    .mv 2 (.t 17),
    .keep [2]])
  (.ret)))⟩
def icopyRes_m : Fn := ⟨1, [.cell 2 5 true], false,
  .seq (.r [.bxl 1 TRes (.t 0),
    .al 2 TRes false,
    .kill [0]])
  (.seq (.post (.r [.fa 3 (.t 1) 0,
    .ld 4 1 false (.t 3),
    .an [] [] [6064] [] (.call 5 false [] (.c (.clo icopyPath [])) [(.t 4)]),
    .an [6064] [] [] [] (.fa 6 (.t 1) 4),
    .an [6064] [] [] [] (.ld 7 1 false (.t 6)),
    .an [] [] [72] [] (.app 8 TProp false 48 (.c (.nil TProp)) (.t 7)),
    .an [72] [] [] [] (.fa 9 (.t 1) 0),
    .an [] [] [6064] [65] (.st 1 (.t 9) (.t 5)),
    .fa 10 (.t 1) 4,
    .an [] [] [72] [65] (.st 1 (.t 10) (.t 8))]) [.keep [2, 1], .drop [72, 6064]])
  (.seq (.r [.ldt 11 5 true (.t 1),
    .st 5 (.t 2) (.t 11),
    .keep [2],
    .drop [65, 12064, 12068]])
  (.ret)))⟩
def iisAt_m : Fn := ⟨2, [.t 4], false,
  .seq (.r [.mv 4 (.c (.d (.b false))),
    .kill [4]])
  (.seq (.r [.mv 5 (.t 0),
    .mv 6 (.t 1),
    .call 7 true [] (.c (.clo iSamePath [])) [(.t 5), (.t 6)],
    .mv 8 (.t 7),
    .gd 8 false (some 9) (.mv 9 (.t 0)),
    .gd 8 false (some 10) (.mv 10 (.t 1)),
    .kill [0, 1, 5, 6, 7],
    .gd 8 false (some 11) (.call 11 true [] (.c (.clo iUnder [])) [(.t 9), (.t 10)]),
    .pick 12 (.t 8) (.c (.d (.b true))) (.t 11),
    .mv 4 (.t 12),
    .keep [4]])
  (.ret))⟩
/-- live: [1, 5, 8, 9, 10]; objects: [69] -/
def iDeepOf_l0 : C :=
  .seq (.r [.bin 11 .lss .num (.t 10) (.t 9)])
    (.seq (.cond (.t 11)
      (.pre [.kill [11]] (.skip))
      (.pre [.keep [5]] (.ex 0)))
    (.seq (.blk 1 (.seq (.r [.ia 12 5 (.t 8) (.t 10),
      .ld 13 5 true (.t 12),
      .al 7 TRes true,
      .st 5 (.t 7) (.t 13),
      .kill [12, 13]])
    (.seq (.r [.fa 14 (.t 7) 0,
      .ld 15 1 false (.t 14),
      .mv 16 (.t 1),
      .call 17 true [] (.c (.clo iisAt [])) [(.t 15), (.t 16)],
      .kill [14, 15, 16]])
    (.cond (.t 17)
      (.pre [.kill [17]] (.r [.mv 18 (.t 5),
        .ld 19 5 true (.t 7),
        .call 20 false [] (.c (.clo icopyRes [])) [(.t 19)],
        .bs 21 TRes false 1 [.nil .str, .d (.b false), .d (.s []), .d (.i .i64 0), .nil TProp] [(0, (.t 20))],
        .app 22 TRes false 80 (.t 18) (.t 21),
        .kill [5, 7, 18, 19, 20, 21],
        .mv 5 (.t 22),
        .ren 86 69,
        .keep [10, 9, 8, 5, 1],
        .drop [71, 85, 86, 21064, 21068]]))
      (.pre [.kill [7, 17], .drop [71]] (.skip))))))
    (.r [.bin 23 .add .num (.t 10) (.c (.d (.i .i64 1))),
      .mv 10 (.t 23),
      .kill [23]])))
def iDeepOf_m : Fn := ⟨2, [.t 4], false,
  .seq (.r [.mv 4 (.c (.nil TRes)),
    .opn 4 4 false,
    .kill [4],
    .drop [68]])
  (.seq (.r [.mv 5 (.c (.nil TRes)),
    .opn 5 5 false])
  (.seq (.seq (.r [.mv 8 (.t 0),
    .len 9 (.t 8),
    .mv 10 (.c (.d (.i .i64 0))),
    .kill [0]])
  (.blk 0 (.pre [.keep [10, 9, 8, 5, 1]] (.loop iDeepOf_l0))))
  (.seq (.r [.mv 24 (.t 5),
    .mv 4 (.t 24),
    .ren 69 68,
    .keep [4],
    .drop [69]])
  (.ret))))⟩
/-- live: [0, 1, 5, 6]; objects: [69] -/
def sDeepOf_l0 : C :=
  .seq (.seq (.r [.mv 8 (.t 6),
      .mv 9 (.t 0),
      .len 10 (.t 9),
      .bin 11 .lss .num (.t 8) (.t 10),
      .kill [8, 9, 10]])
    (.cond (.t 11)
      (.pre [.kill [11]] (.skip))
      (.pre [.keep [5]] (.ex 0))))
    (.seq (.blk 1 (.seq (.r [.mv 14 (.t 0),
      .mv 15 (.t 6),
      .ia 16 5 (.t 14) (.t 15),
      .fa 17 (.t 16) 0,
      .ld 18 1 false (.t 17),
      .mv 19 (.t 1),
      .call 20 true [] (.c (.clo sSamePath [])) [(.t 18), (.t 19)],
      .kill [14, 15, 16, 17, 18, 19],
      .mv 21 (.t 20),
      .gd 21 false (some 22) (.mv 22 (.t 0)),
      .gd 21 false (some 23) (.mv 23 (.t 6)),
      .gd 21 false (some 24) (.ia 24 5 (.t 22) (.t 23)),
      .gd 21 false (some 25) (.fa 25 (.t 24) 0),
      .gd 21 false (some 26) (.ld 26 1 false (.t 25)),
      .kill [20, 22, 23, 24, 25],
      .gd 21 false (some 27) (.mv 27 (.t 1)),
      .gd 21 false (some 28) (.call 28 true [] (.c (.clo sUnder [])) [(.t 26), (.t 27)]),
      .pick 29 (.t 21) (.c (.d (.b true))) (.t 28),
      .keep [29, 6, 5, 1, 0]])
    (.cond (.t 29)
      (.pre [.kill [29]] (.r [.mv 30 (.t 5),
        .mv 31 (.t 0),
        .mv 32 (.t 6),
        .ia 33 5 (.t 31) (.t 32),
        .ld 34 5 true (.t 33),
        .call 35 false [] (.c (.clo sl10Copy [])) [(.t 34)],
        .kill [5, 31, 32, 33, 34],
        .bs 36 TRes false 1 [.nil .str, .d (.b false), .d (.s []), .d (.i .i64 0), .nil TProp] [(0, (.t 35))],
        .app 37 TRes false 80 (.t 30) (.t 36),
        .mv 5 (.t 37),
        .ren 101 69,
        .keep [6, 5, 1, 0],
        .drop [100, 101, 36064, 36068]]))
      (.pre [.kill [29]] (.skip)))))
    (.r [.mv 12 (.t 6),
      .bin 13 .add .num (.t 12) (.c (.d (.i .i64 1))),
      .mv 6 (.t 13),
      .kill [12, 13]]))
def sDeepOf_m : Fn := ⟨2, [.t 4], false,
  .seq (.r [.mv 4 (.c (.nil TRes)),
    .opn 4 4 false,
    .kill [4],
    .drop [68]])
  (.seq (.r [.bs 7 TRes false 0 [.nil .str, .d (.b false), .d (.s []), .d (.i .i64 0), .nil TProp] [],
    .mv 5 (.t 7),
    .ren 71 69,
    .kill [7],
    .drop [71]])
  (.seq (.seq (.r [.mv 6 (.c (.d (.i .i64 0)))])
  (.blk 0 (.pre [.keep [6, 5, 1, 0]] (.loop sDeepOf_l0))))
  (.seq (.r [.mv 38 (.t 5),
    .mv 4 (.t 38),
    .ren 69 68,
    .keep [4],
    .drop [69]])
  (.ret))))⟩
/-- live: [0, 1, 5]; objects: [] -/
def sSamePath_l0 : C :=
  .seq (.seq (.r [.mv 11 (.t 5),
      .mv 12 (.t 0),
      .len 13 (.t 12),
      .bin 14 .lss .num (.t 11) (.t 13),
      .kill [11, 12, 13]])
    (.cond (.t 14)
      (.pre [.kill [14]] (.skip))
      (.pre [.keep []] (.ex 0))))
    (.seq (.blk 1 (.seq (.post (.r [.mv 17 (.t 0),
      .mv 18 (.t 5),
      .ia 19 1 (.t 17) (.t 18),
      .ld 20 1 false (.t 19),
      .mv 21 (.t 1),
      .mv 22 (.t 5),
      .ia 23 1 (.t 21) (.t 22),
      .ld 24 1 false (.t 23),
      .bin 25 .neq .num (.t 20) (.t 24)]) [.keep [25, 5, 1, 0]])
    (.cond (.t 25)
      (.pre [.keep []] (.seq (.r [.mv 4 (.c (.d (.b false)))])
      (.ret)))
      (.pre [.kill [25]] (.skip)))))
    (.r [.mv 15 (.t 5),
      .bin 16 .add .num (.t 15) (.c (.d (.i .i64 1))),
      .mv 5 (.t 16),
      .kill [15, 16]]))
def sSamePath_m : Fn := ⟨2, [.t 4], false,
  .seq (.r [.mv 4 (.c (.d (.b false))),
    .kill [4]])
  (.seq (.seq (.r [.mv 6 (.t 0),
    .len 7 (.t 6),
    .mv 8 (.t 1),
    .len 9 (.t 8),
    .bin 10 .neq .num (.t 7) (.t 9),
    .keep [10, 1, 0]])
  (.cond (.t 10)
    (.pre [.keep []] (.seq (.r [.mv 4 (.c (.d (.b false)))])
    (.ret)))
    (.pre [.kill [10]] (.skip))))
  (.seq (.seq (.r [.mv 5 (.c (.d (.i .i64 0)))])
  (.blk 0 (.pre [.keep [5, 1, 0]] (.loop sSamePath_l0))))
  (.seq (.r [.mv 4 (.c (.d (.b true)))])
  (.ret))))⟩
def sUnder_m : Fn := ⟨2, [.t 4], false,
  .seq (.r [.mv 4 (.c (.d (.b false))),
    .kill [4]])
  (.seq (.r [.mv 5 (.t 0),
    .len 6 (.t 5),
    .mv 7 (.t 1),
    .len 8 (.t 7),
    .bin 9 .gtr .num (.t 6) (.t 8),
    .mv 10 (.t 9),
    .kill [5, 6, 7, 8, 9],
    .gd 10 true (some 11) (.mv 11 (.t 0)),
    .gd 10 true (some 12) (.mv 12 (.t 1)),
    .gd 10 true (some 13) (.len 13 (.t 12)),
    .gd 10 true (some 14) (.slc 14 1 (.t 11) none (some (.t 13))),
    .gd 10 true (some 15) (.mv 15 (.t 1)),
    .kill [0, 1, 11, 12, 13],
    .gd 10 true (some 16) (.call 16 true [] (.c (.clo sSamePath [])) [(.t 14), (.t 15)]),
    .pick 17 (.t 10) (.t 16) (.c (.d (.b false))),
    .mv 4 (.t 17),
    .keep [4]])
  (.ret))⟩
/-- live: [0, 1, 2, 7]; objects: [] -/
def sl11Long_l0 : C :=
  .seq (.seq (.r [.mv 8 (.t 7),
      .mv 9 (.t 0),
      .len 10 (.t 9),
      .bin 11 .lss .num (.t 8) (.t 10),
      .kill [8, 9, 10]])
    (.cond (.t 11)
      (.pre [.kill [11]] (.skip))
      (.pre [.keep []] (.ex 0))))
    (.seq (.blk 1 (.seq (.r [.mv 14 (.t 0),
      .mv 15 (.t 7),
      .ia 16 5 (.t 14) (.t 15),
      .fa 17 (.t 16) 0,
      .ld 18 1 false (.t 17),
      .len 19 (.t 18),
      .kill [14, 15, 16, 17, 18],
      .mv 20 (.t 1),
      .len 21 (.t 20),
      .bin 22 .sub .num (.t 19) (.t 21),
      .mv 23 (.t 2),
      .len 24 (.t 23),
      .bin 25 .add .num (.t 22) (.t 24),
      .kill [19, 20, 21, 22, 23, 24],
      .bin 26 .gtr .num (.t 25) (.c (.d (.i .i64 4))),
      .keep [26, 7, 2, 1, 0]])
    (.cond (.t 26)
      (.pre [.keep []] (.seq (.r [.mv 6 (.c (.d (.b true)))])
      (.ret)))
      (.pre [.kill [26]] (.skip)))))
    (.r [.mv 12 (.t 7),
      .bin 13 .add .num (.t 12) (.c (.d (.i .i64 1))),
      .mv 7 (.t 13),
      .kill [12, 13]]))
def sl11Long_m : Fn := ⟨3, [.t 6], false,
  .seq (.r [.mv 6 (.c (.d (.b false))),
    .kill [6]])
  (.seq (.seq (.r [.mv 7 (.c (.d (.i .i64 0)))])
  (.blk 0 (.pre [.keep [7, 2, 1, 0]] (.loop sl11Long_l0))))
  (.seq (.r [.mv 6 (.c (.d (.b false)))])
  (.ret)))⟩
def sl10Copy_m : Fn := ⟨1, [.cell 2 5 true], false,
  .seq (.r [.bx 1 TRes true (.t 0),
    .al 2 TRes false,
    .kill [0]])
  (.seq (.r [.ld 4 5 true (.t 1),
    .al 3 TRes false,
    .stl 5 (.t 3) (.t 4),
    .kill [4]])
  (.seq (.r [.bs 5 .str false 0 [.d (.s [])] [],
    .fa 6 (.t 1) 0,
    .ld 7 1 false (.t 6),
    .app 8 .str false 16 (.t 5) (.t 7),
    .fa 9 (.t 3) 0,
    .st 1 (.t 9) (.t 8),
    .keep [3, 2, 1],
    .drop [69, 72]])
  (.seq (.r [.bs 10 TProp false 0 [.d (.s []), .d (.s []), .d (.s [])] [],
    .fa 11 (.t 1) 4,
    .ld 12 1 false (.t 11),
    .app 13 TProp false 48 (.t 10) (.t 12),
    .fa 14 (.t 3) 4,
    .st 1 (.t 14) (.t 13),
    .keep [3, 2],
    .drop [65, 74, 77]])
  (.seq (.r [.ldt 15 5 true (.t 3),
    .st 5 (.t 2) (.t 15),
    .keep [2],
    .drop [67, 16064, 16068]])
  (.ret)))))⟩
def sl1Byte_m : Fn := ⟨1, [.t 2], false,
  .seq (.r [.mv 2 (.c (.d (.i .i64 0))),
    .kill [2]])
  (.seq (.r [.mv 4 (.t 0),
    .mv 5 (.t 0),
    .nchk 6 (.t 5),
    .fa 7 (.t 6) 2,
    .ld 8 1 false (.t 7),
    .bin 9 .mul .num (.t 8) (.c (.d (.i .i64 6364136223846793005))),
    .bin 10 .add .num (.t 9) (.c (.d (.i .i64 1442695040888963407))),
    .kill [5, 6, 7, 8, 9],
    .nchk 11 (.t 4),
    .fa 12 (.t 11) 2,
    .st 1 (.t 12) (.t 10),
    .keep [0]])
  (.seq (.post (.r [.mv 13 (.t 0),
    .nchk 14 (.t 13),
    .fa 15 (.t 14) 2,
    .ld 16 1 false (.t 15),
    .bin 17 .shr .num (.t 16) (.c (.d (.i .u64 33))),
    .mv 18 (.t 0),
    .nchk 19 (.t 18),
    .fa 20 (.t 19) 2,
    .ld 21 1 false (.t 20),
    .bin 22 .shr .num (.t 21) (.c (.d (.i .u64 47))),
    .bin 23 .xor .num (.t 17) (.t 22),
    .bin 24 .and .num (.t 23) (.c (.d (.i .i64 255))),
    .mv 3 (.t 24)]) [.keep [3, 0]])
  (.seq (.seq (.post (.r [.mv 25 (.t 0),
    .nchk 26 (.t 25),
    .fa 27 (.t 26) 1,
    .ld 28 1 false (.t 27),
    .mv 29 (.t 0),
    .nchk 30 (.t 29),
    .fa 31 (.t 30) 0,
    .ld 32 1 false (.t 31),
    .len 33 (.t 32),
    .bin 34 .lss .num (.t 28) (.t 33)]) [.keep [34, 3, 0]])
  (.cond (.t 34)
    (.pre [.kill [34]] (.seq (.post (.r [.mv 35 (.t 3),
      .mv 36 (.t 0),
      .nchk 37 (.t 36),
      .fa 38 (.t 37) 0,
      .ld 39 1 false (.t 38),
      .mv 40 (.t 0),
      .nchk 41 (.t 40),
      .fa 42 (.t 41) 1,
      .ld 43 1 false (.t 42),
      .ia 44 1 (.t 39) (.t 43),
      .ld 45 1 false (.t 44),
      .cvi 46 .i64 (.t 45),
      .bin 47 .add .num (.t 35) (.t 46),
      .bin 48 .and .num (.t 47) (.c (.d (.i .i64 255))),
      .mv 3 (.t 48)]) [.keep [3, 0]])
    (.r [.mv 49 (.t 0),
      .mv 50 (.t 0),
      .nchk 51 (.t 50),
      .fa 52 (.t 51) 1,
      .ld 53 1 false (.t 52),
      .bin 54 .add .num (.t 53) (.c (.d (.i .i64 1))),
      .kill [0, 50, 51, 52, 53],
      .nchk 55 (.t 49),
      .fa 56 (.t 55) 1,
      .st 1 (.t 56) (.t 54),
      .keep [3]])))
    (.pre [.keep [3]] (.skip))))
  (.seq (.r [.mv 57 (.t 3),
    .mv 2 (.t 57),
    .keep [2]])
  (.ret)))))⟩
/-- live: [0, 1, 12, 13]; objects: [] -/
def iSamePath_l0 : C :=
  .seq (.r [.bin 14 .lss .num (.t 13) (.t 12)])
    (.seq (.cond (.t 14)
      (.pre [.kill [14]] (.skip))
      (.pre [.keep []] (.ex 0)))
    (.seq (.blk 1 (.seq (.r [.mv 15 (.t 13),
      .mv 5 (.t 15),
      .kill [15]])
    (.seq (.post (.r [.mv 16 (.t 0),
      .mv 17 (.t 5),
      .ia 18 1 (.t 16) (.t 17),
      .ld 19 1 false (.t 18),
      .mv 20 (.t 1),
      .mv 21 (.t 5),
      .ia 22 1 (.t 20) (.t 21),
      .ld 23 1 false (.t 22),
      .bin 24 .neq .num (.t 19) (.t 23)]) [.keep [24, 13, 12, 1, 0]])
    (.cond (.t 24)
      (.pre [.keep []] (.seq (.r [.mv 4 (.c (.d (.b false)))])
      (.ret)))
      (.pre [.kill [24]] (.skip))))))
    (.r [.bin 25 .add .num (.t 13) (.c (.d (.i .i64 1))),
      .mv 13 (.t 25),
      .kill [25]])))
def iSamePath_m : Fn := ⟨2, [.t 4], false,
  .seq (.r [.mv 4 (.c (.d (.b false))),
    .kill [4]])
  (.seq (.seq (.r [.mv 6 (.t 0),
    .len 7 (.t 6),
    .mv 8 (.t 1),
    .len 9 (.t 8),
    .bin 10 .neq .num (.t 7) (.t 9),
    .keep [10, 1, 0]])
  (.cond (.t 10)
    (.pre [.keep []] (.seq (.r [.mv 4 (.c (.d (.b false)))])
    (.ret)))
    (.pre [.kill [10]] (.skip))))
  (.seq (.seq (.r [.mv 11 (.t 0),
    .len 12 (.t 11),
    .mv 13 (.c (.d (.i .i64 0))),
    .kill [11]])
  (.blk 0 (.pre [.keep [13, 12, 1, 0]] (.loop iSamePath_l0))))
  (.seq (.r [.mv 4 (.c (.d (.b true)))])
  (.ret))))⟩
/-- live: [0, 1, 5]; objects: [] -/
def iLessPath_l0 : C :=
  .seq (.seq (.r [.mv 6 (.t 5),
      .mv 7 (.t 0),
      .len 8 (.t 7),
      .bin 9 .lss .num (.t 6) (.t 8),
      .mv 10 (.t 9),
      .gd 10 true (some 11) (.mv 11 (.t 5)),
      .gd 10 true (some 12) (.mv 12 (.t 1)),
      .gd 10 true (some 13) (.len 13 (.t 12)),
      .kill [6, 7, 8, 9, 12],
      .gd 10 true (some 14) (.bin 14 .lss .num (.t 11) (.t 13)),
      .pick 15 (.t 10) (.t 14) (.c (.d (.b false))),
      .keep [15, 5, 1, 0]])
    (.cond (.t 15)
      (.pre [.kill [15]] (.skip))
      (.pre [.kill [5, 15]] (.ex 0))))
    (.seq (.blk 1 (.seq (.post (.r [.mv 18 (.t 0),
      .mv 19 (.t 5),
      .ia 20 1 (.t 18) (.t 19),
      .ld 21 1 false (.t 20),
      .mv 22 (.t 1),
      .mv 23 (.t 5),
      .ia 24 1 (.t 22) (.t 23),
      .ld 25 1 false (.t 24),
      .bin 26 .neq .num (.t 21) (.t 25)]) [.keep [26, 5, 1, 0]])
    (.cond (.t 26)
      (.pre [.kill [26]] (.seq (.post (.r [.mv 27 (.t 0),
        .mv 28 (.t 5),
        .ia 29 1 (.t 27) (.t 28),
        .ld 30 1 false (.t 29),
        .mv 31 (.t 1),
        .mv 32 (.t 5),
        .ia 33 1 (.t 31) (.t 32),
        .ld 34 1 false (.t 33),
        .bin 35 .lss .num (.t 30) (.t 34),
        .mv 4 (.t 35)]) [.keep [4]])
      (.ret)))
      (.pre [.kill [26]] (.skip)))))
    (.r [.mv 16 (.t 5),
      .bin 17 .add .num (.t 16) (.c (.d (.i .i64 1))),
      .mv 5 (.t 17),
      .kill [16, 17]]))
def iLessPath_m : Fn := ⟨2, [.t 4], false,
  .seq (.r [.mv 4 (.c (.d (.b false))),
    .kill [4]])
  (.seq (.seq (.r [.mv 5 (.c (.d (.i .i64 0)))])
  (.blk 0 (.pre [.keep [5, 1, 0]] (.loop iLessPath_l0))))
  (.seq (.r [.mv 36 (.t 0),
    .len 37 (.t 36),
    .mv 38 (.t 1),
    .len 39 (.t 38),
    .bin 40 .lss .num (.t 37) (.t 39),
    .kill [0, 1, 36, 37, 38, 39],
    .mv 4 (.t 40),
    .keep [4]])
  (.ret)))⟩
def sl1In_m : Fn := ⟨3, [.t 6], false,
  .seq (.r [.mv 6 (.c (.d (.b false))),
    .kill [6]])
  (.seq (.r [.mv 7 (.t 0),
    .mv 8 (.t 1),
    .bin 9 .geq .num (.t 7) (.t 8),
    .mv 10 (.t 9),
    .gd 10 true (some 11) (.mv 11 (.t 0)),
    .kill [0, 1, 7, 8, 9],
    .gd 10 true (some 12) (.mv 12 (.t 2)),
    .gd 10 true (some 13) (.bin 13 .leq .num (.t 11) (.t 12)),
    .pick 14 (.t 10) (.t 13) (.c (.d (.b false))),
    .kill [2, 10, 11, 12, 13],
    .mv 6 (.t 14),
    .keep [6]])
  (.ret))⟩
/-- live: [0, 3]; objects: [] -/
def sTreeOk_l0 : C :=
  .seq (.seq (.r [.mv 5 (.t 3),
      .mv 6 (.t 0),
      .len 7 (.t 6),
      .bin 8 .lss .num (.t 5) (.t 7),
      .kill [5, 6, 7]])
    (.cond (.t 8)
      (.pre [.kill [8]] (.skip))
      (.pre [.keep [0]] (.ex 0))))
    (.seq (.blk 1 (.seq (.r [.mv 11 (.t 0),
      .mv 12 (.t 3),
      .ia 13 5 (.t 11) (.t 12),
      .ld 14 5 true (.t 13),
      .al 4 TRes true,
      .st 5 (.t 4) (.t 14),
      .keep [4, 3, 0]])
    (.seq (.seq (.r [.fa 15 (.t 4) 0,
      .ld 16 1 false (.t 15),
      .len 17 (.t 16),
      .bin 18 .eql .num (.t 17) (.c (.d (.i .i64 0))),
      .mv 19 (.t 18),
      .gd 19 false (some 20) (.fa 20 (.t 4) 0),
      .gd 19 false (some 21) (.ld 21 1 false (.t 20)),
      .kill [15, 16, 17, 18, 20],
      .gd 19 false (some 22) (.call 22 true [] (.c (.clo sPathOk [])) [(.t 21)]),
      .gd 19 false (some 23) (.not 23 (.t 22)),
      .pick 24 (.t 19) (.c (.d (.b true))) (.t 23),
      .mv 25 (.t 24),
      .kill [19, 21, 22, 23, 24],
      .gd 25 false (some 26) (.fa 26 (.t 4) 2),
      .gd 25 false (some 27) (.ld 27 1 false (.t 26)),
      .gd 25 false (some 28) (.lns 28 (.t 27)),
      .gd 25 false (some 29) (.bin 29 .gtr .num (.t 28) (.c (.d (.i .i64 200)))),
      .pick 30 (.t 25) (.c (.d (.b true))) (.t 29),
      .kill [25, 26, 27, 28, 29],
      .mv 31 (.t 30),
      .gd 31 false (some 32) (.fa 32 (.t 4) 1),
      .gd 31 false (some 33) (.ld 33 1 false (.t 32)),
      .gd 31 false (some 34) (.mv 34 (.t 33)),
      .gd 34 true (some 35) (.fa 35 (.t 4) 2),
      .gd 34 true (some 36) (.ld 36 1 false (.t 35)),
      .gd 34 true (some 37) (.bin 37 .neq .num (.t 36) (.c (.d (.s [])))),
      .kill [30, 32, 33, 35, 36],
      .gd 31 false (some 38) (.pick 38 (.t 34) (.t 37) (.c (.d (.b false)))),
      .pick 39 (.t 31) (.c (.d (.b true))) (.t 38),
      .mv 40 (.t 39),
      .kill [31, 34, 37, 38, 39],
      .gd 40 false (some 41) (.fa 41 (.t 4) 3),
      .gd 40 false (some 42) (.ld 42 1 false (.t 41)),
      .gd 40 false (some 43) (.call 43 true [] (.c (.clo sl1In [])) [(.t 42), (.c (.d (.i .i64 0))), (.c (.d (.i .i64 99999)))]),
      .gd 40 false (some 44) (.not 44 (.t 43)),
      .pick 45 (.t 40) (.c (.d (.b true))) (.t 44),
      .kill [40, 41, 42, 43, 44],
      .mv 46 (.t 45),
      .gd 46 false (some 47) (.fa 47 (.t 4) 4),
      .gd 46 false (some 48) (.ld 48 1 false (.t 47)),
      .gd 46 false (some 49) (.call 49 true [] (.c (.clo sPropsOk [])) [(.t 48)]),
      .gd 46 false (some 50) (.not 50 (.t 49)),
      .pick 51 (.t 46) (.c (.d (.b true))) (.t 50),
      .keep [51, 4, 3, 0]])
    (.cond (.t 51)
      (.pre [.keep [], .drop [68]] (.seq (.r [.mv 2 (.c (.d (.b false)))])
      (.ret)))
      (.pre [.kill [51]] (.skip))))
    (.seq (.post (.r [.mv 52 (.t 3),
      .bin 53 .gtr .num (.t 52) (.c (.d (.i .i64 0))),
      .mv 54 (.t 53),
      .gd 54 true (some 55) (.mv 55 (.t 0)),
      .gd 54 true (some 56) (.mv 56 (.t 3)),
      .gd 54 true (some 57) (.bin 57 .sub .num (.t 56) (.c (.d (.i .i64 1)))),
      .gd 54 true (some 58) (.ia 58 5 (.t 55) (.t 57)),
      .gd 54 true (some 59) (.fa 59 (.t 58) 0),
      .gd 54 true (some 60) (.ld 60 1 false (.t 59)),
      .gd 54 true (some 61) (.fa 61 (.t 4) 0),
      .gd 54 true (some 62) (.ld 62 1 false (.t 61)),
      .gd 54 true (some 63) (.call 63 true [] (.c (.clo sLessPath [])) [(.t 60), (.t 62)]),
      .gd 54 true (some 64) (.not 64 (.t 63)),
      .pick 65 (.t 54) (.t 64) (.c (.d (.b false))),
      .mv 66 (.t 65),
      .gd 66 false (some 67) (.mv 67 (.t 0)),
      .gd 66 false (some 68) (.fa 68 (.t 4) 0),
      .gd 66 false (some 69) (.ld 69 1 false (.t 68)),
      .gd 66 false (some 70) (.call 70 true [] (.c (.clo sAbove [])) [(.t 69)]),
      .gd 66 false (some 71) (.call 71 true [] (.c (.clo sIsColl [])) [(.t 67), (.t 70)]),
      .gd 66 false (some 72) (.not 72 (.t 71)),
      .pick 73 (.t 66) (.c (.d (.b true))) (.t 72)]) [.keep [73, 3, 0], .drop [68]])
    (.cond (.t 73)
      (.pre [.keep []] (.seq (.r [.mv 2 (.c (.d (.b false)))])
      (.ret)))
      (.pre [.kill [73]] (.skip)))))))
    (.r [.mv 9 (.t 3),
      .bin 10 .add .num (.t 9) (.c (.d (.i .i64 1))),
      .mv 3 (.t 10),
      .kill [9, 10]]))
def sTreeOk_m : Fn := ⟨1, [.t 2], false,
  .seq (.r [.mv 2 (.c (.d (.b false))),
    .kill [2]])
  (.seq (.seq (.r [.mv 3 (.c (.d (.i .i64 0)))])
  (.blk 0 (.pre [.keep [3, 0]] (.loop sTreeOk_l0))))
  (.seq (.r [.mv 74 (.t 0),
    .len 75 (.t 74),
    .bin 76 .leq .num (.t 75) (.c (.d (.i .i64 12))),
    .mv 2 (.t 76),
    .keep [2]])
  (.ret)))⟩
/-- live: [0, 3]; objects: [] -/
def sPathOk_l0 : C :=
  .seq (.seq (.r [.mv 4 (.t 3),
      .mv 5 (.t 0),
      .len 6 (.t 5),
      .bin 7 .lss .num (.t 4) (.t 6),
      .kill [4, 5, 6]])
    (.cond (.t 7)
      (.pre [.kill [7]] (.skip))
      (.pre [.keep [0]] (.ex 0))))
    (.seq (.blk 1 (.seq (.r [.mv 10 (.t 0),
      .mv 11 (.t 3),
      .ia 12 1 (.t 10) (.t 11),
      .ld 13 1 false (.t 12),
      .call 14 true [] (.c (.clo sNameOk [])) [(.t 13)],
      .not 15 (.t 14),
      .keep [15, 3, 0]])
    (.cond (.t 15)
      (.pre [.keep []] (.seq (.r [.mv 2 (.c (.d (.b false)))])
      (.ret)))
      (.pre [.kill [15]] (.skip)))))
    (.r [.mv 8 (.t 3),
      .bin 9 .add .num (.t 8) (.c (.d (.i .i64 1))),
      .mv 3 (.t 9),
      .kill [8, 9]]))
def sPathOk_m : Fn := ⟨1, [.t 2], false,
  .seq (.r [.mv 2 (.c (.d (.b false))),
    .kill [2]])
  (.seq (.seq (.r [.mv 3 (.c (.d (.i .i64 0)))])
  (.blk 0 (.pre [.keep [3, 0]] (.loop sPathOk_l0))))
  (.seq (.r [.mv 16 (.t 0),
    .len 17 (.t 16),
    .bin 18 .leq .num (.t 17) (.c (.d (.i .i64 4))),
    .mv 2 (.t 18),
    .keep [2]])
  (.ret)))⟩
/-- live: [0, 1, 5]; objects: [] -/
def sLessPath_l0 : C :=
  .seq (.seq (.r [.mv 6 (.t 5),
      .mv 7 (.t 0),
      .len 8 (.t 7),
      .bin 9 .lss .num (.t 6) (.t 8),
      .mv 10 (.t 9),
      .gd 10 true (some 11) (.mv 11 (.t 5)),
      .gd 10 true (some 12) (.mv 12 (.t 1)),
      .gd 10 true (some 13) (.len 13 (.t 12)),
      .kill [6, 7, 8, 9, 12],
      .gd 10 true (some 14) (.bin 14 .lss .num (.t 11) (.t 13)),
      .pick 15 (.t 10) (.t 14) (.c (.d (.b false))),
      .keep [15, 5, 1, 0]])
    (.cond (.t 15)
      (.pre [.kill [15]] (.skip))
      (.pre [.kill [5, 15]] (.ex 0))))
    (.seq (.blk 1 (.seq (.post (.r [.mv 18 (.t 0),
      .mv 19 (.t 5),
      .ia 20 1 (.t 18) (.t 19),
      .ld 21 1 false (.t 20),
      .mv 22 (.t 1),
      .mv 23 (.t 5),
      .ia 24 1 (.t 22) (.t 23),
      .ld 25 1 false (.t 24),
      .bin 26 .neq .num (.t 21) (.t 25)]) [.keep [26, 5, 1, 0]])
    (.cond (.t 26)
      (.pre [.kill [26]] (.seq (.post (.r [.mv 27 (.t 0),
        .mv 28 (.t 5),
        .ia 29 1 (.t 27) (.t 28),
        .ld 30 1 false (.t 29),
        .mv 31 (.t 1),
        .mv 32 (.t 5),
        .ia 33 1 (.t 31) (.t 32),
        .ld 34 1 false (.t 33),
        .bin 35 .lss .num (.t 30) (.t 34),
        .mv 4 (.t 35)]) [.keep [4]])
      (.ret)))
      (.pre [.kill [26]] (.skip)))))
    (.r [.mv 16 (.t 5),
      .bin 17 .add .num (.t 16) (.c (.d (.i .i64 1))),
      .mv 5 (.t 17),
      .kill [16, 17]]))
def sLessPath_m : Fn := ⟨2, [.t 4], false,
  .seq (.r [.mv 4 (.c (.d (.b false))),
    .kill [4]])
  (.seq (.seq (.r [.mv 5 (.c (.d (.i .i64 0)))])
  (.blk 0 (.pre [.keep [5, 1, 0]] (.loop sLessPath_l0))))
  (.seq (.r [.mv 36 (.t 0),
    .len 37 (.t 36),
    .mv 38 (.t 1),
    .len 39 (.t 38),
    .bin 40 .lss .num (.t 37) (.t 39),
    .kill [0, 1, 36, 37, 38, 39],
    .mv 4 (.t 40),
    .keep [4]])
  (.ret)))⟩
/-- live: [0, 1, 5]; objects: [] -/
def wsameTexts_l0 : C :=
  .seq (.seq (.r [.mv 11 (.t 5),
      .mv 12 (.t 0),
      .len 13 (.t 12),
      .bin 14 .lss .num (.t 11) (.t 13),
      .kill [11, 12, 13]])
    (.cond (.t 14)
      (.pre [.kill [14]] (.skip))
      (.pre [.keep []] (.ex 0))))
    (.seq (.blk 1 (.seq (.post (.r [.mv 17 (.t 0),
      .mv 18 (.t 5),
      .ia 19 1 (.t 17) (.t 18),
      .ld 20 1 false (.t 19),
      .mv 21 (.t 1),
      .mv 22 (.t 5),
      .ia 23 1 (.t 21) (.t 22),
      .ld 24 1 false (.t 23),
      .bin 25 .neq .num (.t 20) (.t 24)]) [.keep [25, 5, 1, 0]])
    (.cond (.t 25)
      (.pre [.keep []] (.seq (.r [.mv 4 (.c (.d (.b false)))])
      (.ret)))
      (.pre [.kill [25]] (.skip)))))
    (.r [.mv 15 (.t 5),
      .bin 16 .add .num (.t 15) (.c (.d (.i .i64 1))),
      .mv 5 (.t 16),
      .kill [15, 16]]))
def wsameTexts_m : Fn := ⟨2, [.t 4], false,
  .seq (.r [.mv 4 (.c (.d (.b false))),
    .kill [4]])
  (.seq (.seq (.r [.mv 6 (.t 0),
    .len 7 (.t 6),
    .mv 8 (.t 1),
    .len 9 (.t 8),
    .bin 10 .neq .num (.t 7) (.t 9),
    .keep [10, 1, 0]])
  (.cond (.t 10)
    (.pre [.keep []] (.seq (.r [.mv 4 (.c (.d (.b false)))])
    (.ret)))
    (.pre [.kill [10]] (.skip))))
  (.seq (.seq (.r [.mv 5 (.c (.d (.i .i64 0)))])
  (.blk 0 (.pre [.keep [5, 1, 0]] (.loop wsameTexts_l0))))
  (.seq (.r [.mv 4 (.c (.d (.b true)))])
  (.ret))))⟩
/-- live: [0, 1, 5]; objects: [] -/
def wsameProps_l0 : C :=
  .seq (.seq (.r [.mv 11 (.t 5),
      .mv 12 (.t 0),
      .len 13 (.t 12),
      .bin 14 .lss .num (.t 11) (.t 13),
      .kill [11, 12, 13]])
    (.cond (.t 14)
      (.pre [.kill [14]] (.skip))
      (.pre [.keep []] (.ex 0))))
    (.seq (.blk 1 (.seq (.post (.r [.mv 17 (.t 0),
      .mv 18 (.t 5),
      .ia 19 3 (.t 17) (.t 18),
      .ld 20 3 true (.t 19),
      .mv 21 (.t 1),
      .mv 22 (.t 5),
      .ia 23 3 (.t 21) (.t 22),
      .ld 24 3 true (.t 23),
      .bin 25 .neq (.st [2, 2, 2]) (.t 20) (.t 24)]) [.keep [25, 5, 1, 0]])
    (.cond (.t 25)
      (.pre [.keep []] (.seq (.r [.mv 4 (.c (.d (.b false)))])
      (.ret)))
      (.pre [.kill [25]] (.skip)))))
    (.r [.mv 15 (.t 5),
      .bin 16 .add .num (.t 15) (.c (.d (.i .i64 1))),
      .mv 5 (.t 16),
      .kill [15, 16]]))
def wsameProps_m : Fn := ⟨2, [.t 4], false,
  .seq (.r [.mv 4 (.c (.d (.b false))),
    .kill [4]])
  (.seq (.seq (.r [.mv 6 (.t 0),
    .len 7 (.t 6),
    .mv 8 (.t 1),
    .len 9 (.t 8),
    .bin 10 .neq .num (.t 7) (.t 9),
    .keep [10, 1, 0]])
  (.cond (.t 10)
    (.pre [.keep []] (.seq (.r [.mv 4 (.c (.d (.b false)))])
    (.ret)))
    (.pre [.kill [10]] (.skip))))
  (.seq (.seq (.r [.mv 5 (.c (.d (.i .i64 0)))])
  (.blk 0 (.pre [.keep [5, 1, 0]] (.loop wsameProps_l0))))
  (.seq (.r [.mv 4 (.c (.d (.b true)))])
  (.ret))))⟩
/-- live: [0, 3, 4]; objects: [0, 67] -/
def sl10Props_l0 : C :=
  .seq (.seq (.r [.mv 8 (.t 4),
      .bin 9 .gtr .num (.t 8) (.c (.d (.i .i64 0))),
      .kill [8]])
    (.cond (.t 9)
      (.pre [.kill [9]] (.skip))
      (.pre [.keep [3]] (.ex 0))))
    (.seq (.blk 1 (.r [.mv 13 (.t 3),
      .mv 14 (.t 0),
      .call 15 true [0] (.c (.clo sl10OneProp [])) [(.t 14)],
      .bd 16 [.d (.b false), .d (.s []), .d (.s []), .d (.s [])] [(1, 3, (.t 15))],
      .bs 17 TSet false 1 [.d (.b false), .d (.s []), .d (.s []), .d (.s [])] [(0, (.t 16))],
      .call 18 false [] (.c (.clo sSetProps [])) [(.t 13), (.t 17)],
      .kill [3, 13, 14, 15, 16, 17],
      .mv 12 (.t 18),
      .ext 19 (.t 12) 0,
      .ext 20 (.t 12) 1,
      .mv 3 (.t 19),
      .ren 19064 67,
      .keep [4, 3, 0],
      .drop [81, 19064]]))
    (.r [.mv 10 (.t 4),
      .bin 11 .sub .num (.t 10) (.c (.d (.i .i64 1))),
      .mv 4 (.t 11),
      .kill [10, 11]]))
def sl10Props_m : Fn := ⟨1, [.t 2], false,
  .seq (.r [.mv 2 (.c (.nil TProp)),
    .opn 2 2 false,
    .kill [2],
    .drop [66]])
  (.seq (.r [.bs 5 TProp false 0 [.d (.s []), .d (.s []), .d (.s [])] [],
    .mv 3 (.t 5),
    .ren 69 67,
    .kill [5],
    .drop [69]])
  (.seq (.seq (.r [.mv 6 (.t 0),
    .call 7 true [0] (.c (.clo sl1Below [])) [(.t 6), (.c (.d (.i .i64 3)))],
    .mv 4 (.t 7),
    .kill [6, 7]])
  (.blk 0 (.pre [.keep [4, 3, 0]] (.loop sl10Props_l0))))
  (.seq (.r [.mv 21 (.t 3),
    .mv 2 (.t 21),
    .ren 67 66,
    .keep [2],
    .drop [67]])
  (.ret))))⟩
def iresOk_m : Fn := ⟨1, [.t 2], false,
  .seq (.r [.bx 1 TRes true (.t 0),
    .mv 2 (.c (.d (.b false))),
    .keep [1]])
  (.seq (.r [.fa 3 (.t 1) 0,
    .ld 4 1 false (.t 3),
    .len 5 (.t 4),
    .bin 6 .gtr .num (.t 5) (.c (.d (.i .i64 0))),
    .mv 7 (.t 6),
    .gd 7 true (some 8) (.fa 8 (.t 1) 0),
    .gd 7 true (some 9) (.ld 9 1 false (.t 8)),
    .kill [3, 4, 5, 6, 8],
    .gd 7 true (some 10) (.call 10 true [] (.c (.clo iPathOk [])) [(.t 9)]),
    .pick 11 (.t 7) (.t 10) (.c (.d (.b false))),
    .mv 12 (.t 11),
    .gd 12 true (some 13) (.fa 13 (.t 1) 1),
    .gd 12 true (some 14) (.ld 14 1 false (.t 13)),
    .kill [7, 9, 10, 11, 13],
    .gd 12 true (some 15) (.not 15 (.t 14)),
    .gd 12 true (some 16) (.mv 16 (.t 15)),
    .gd 16 false (some 17) (.fa 17 (.t 1) 2),
    .gd 16 false (some 18) (.ld 18 1 false (.t 17)),
    .gd 16 false (some 19) (.bin 19 .eql .num (.t 18) (.c (.d (.s [])))),
    .gd 12 true (some 20) (.pick 20 (.t 16) (.c (.d (.b true))) (.t 19)),
    .kill [14, 15, 16, 17, 18, 19],
    .pick 21 (.t 12) (.t 20) (.c (.d (.b false))),
    .mv 22 (.t 21),
    .gd 22 true (some 23) (.fa 23 (.t 1) 2),
    .gd 22 true (some 24) (.ld 24 1 false (.t 23)),
    .gd 22 true (some 25) (.lns 25 (.t 24)),
    .kill [12, 20, 21, 23, 24],
    .gd 22 true (some 26) (.bin 26 .leq .num (.t 25) (.c (.d (.i .i64 200)))),
    .pick 27 (.t 22) (.t 26) (.c (.d (.b false))),
    .mv 28 (.t 27),
    .gd 28 true (some 29) (.fa 29 (.t 1) 3),
    .gd 28 true (some 30) (.ld 30 1 false (.t 29)),
    .kill [22, 25, 26, 27, 29],
    .gd 28 true (some 31) (.call 31 true [] (.c (.clo iin [])) [(.t 30), (.c (.d (.i .i64 0))), (.c (.d (.i .i64 99999)))]),
    .pick 32 (.t 28) (.t 31) (.c (.d (.b false))),
    .mv 33 (.t 32),
    .gd 33 true (some 34) (.fa 34 (.t 1) 4),
    .kill [1, 28, 30, 31, 32],
    .gd 33 true (some 35) (.ld 35 1 false (.t 34)),
    .gd 33 true (some 36) (.call 36 true [] (.c (.clo iPropsOk [])) [(.t 35)]),
    .pick 37 (.t 33) (.t 36) (.c (.d (.b false))),
    .mv 2 (.t 37),
    .keep [2],
    .drop [65]])
  (.ret))⟩
def iNameOk_m : Fn := ⟨1, [.t 2], false,
  .seq (.r [.mv 2 (.c (.d (.b false))),
    .kill [2]])
  (.seq (.r [.mv 3 (.t 0),
    .lns 4 (.t 3),
    .call 5 true [] (.c (.clo iin [])) [(.t 4), (.c (.d (.i .i64 1))), (.c (.d (.i .i64 8)))],
    .mv 6 (.t 5),
    .gd 6 true (some 7) (.mv 7 (.t 0)),
    .gd 6 true (some 8) (.call 8 true [] (.c (.clo iPlain [])) [(.t 7)]),
    .pick 9 (.t 6) (.t 8) (.c (.d (.b false))),
    .kill [3, 4, 5, 6, 7, 8],
    .mv 10 (.t 9),
    .gd 10 true (some 11) (.mv 11 (.t 0)),
    .gd 10 true (some 12) (.call 12 true [] (.c (.clo x_strings_Contains [])) [(.t 11), (.c (.d (.s [47])))]),
    .gd 10 true (some 13) (.not 13 (.t 12)),
    .pick 14 (.t 10) (.t 13) (.c (.d (.b false))),
    .kill [9, 10, 11, 12, 13],
    .mv 15 (.t 14),
    .gd 15 true (some 16) (.mv 16 (.t 0)),
    .gd 15 true (some 17) (.bin 17 .neq .num (.t 16) (.c (.d (.s [46])))),
    .pick 18 (.t 15) (.t 17) (.c (.d (.b false))),
    .mv 19 (.t 18),
    .kill [14, 15, 16, 17, 18],
    .gd 19 true (some 20) (.mv 20 (.t 0)),
    .gd 19 true (some 21) (.bin 21 .neq .num (.t 20) (.c (.d (.s [46, 46])))),
    .pick 22 (.t 19) (.t 21) (.c (.d (.b false))),
    .mv 2 (.t 22),
    .keep [2]])
  (.ret))⟩
def iUnder_m : Fn := ⟨2, [.t 4], false,
  .seq (.r [.mv 4 (.c (.d (.b false))),
    .kill [4]])
  (.seq (.r [.mv 5 (.t 0),
    .len 6 (.t 5),
    .mv 7 (.t 1),
    .len 8 (.t 7),
    .bin 9 .gtr .num (.t 6) (.t 8),
    .mv 10 (.t 9),
    .kill [5, 6, 7, 8, 9],
    .gd 10 true (some 11) (.mv 11 (.t 0)),
    .gd 10 true (some 12) (.mv 12 (.t 1)),
    .gd 10 true (some 13) (.len 13 (.t 12)),
    .gd 10 true (some 14) (.slc 14 1 (.t 11) none (some (.t 13))),
    .gd 10 true (some 15) (.mv 15 (.t 1)),
    .kill [0, 1, 11, 12, 13],
    .gd 10 true (some 16) (.call 16 true [] (.c (.clo iSamePath [])) [(.t 14), (.t 15)]),
    .pick 17 (.t 10) (.t 16) (.c (.d (.b false))),
    .mv 4 (.t 17),
    .keep [4]])
  (.ret))⟩
/-- live: [0, 3]; objects: [] -/
def sPropsOk_l0 : C :=
  .seq (.seq (.r [.mv 4 (.t 3),
      .mv 5 (.t 0),
      .len 6 (.t 5),
      .bin 7 .lss .num (.t 4) (.t 6),
      .kill [4, 5, 6]])
    (.cond (.t 7)
      (.pre [.kill [7]] (.skip))
      (.pre [.keep [0]] (.ex 0))))
    (.seq (.blk 1 (.seq (.post (.r [.mv 10 (.t 0),
      .mv 11 (.t 3),
      .ia 12 3 (.t 10) (.t 11),
      .ld 13 3 true (.t 12),
      .call 14 true [] (.c (.clo sl10Prop [])) [(.t 13)],
      .not 15 (.t 14),
      .mv 16 (.t 15),
      .gd 16 false (some 17) (.mv 17 (.t 3)),
      .gd 16 false (some 18) (.bin 18 .gtr .num (.t 17) (.c (.d (.i .i64 0)))),
      .gd 16 false (some 19) (.mv 19 (.t 18)),
      .gd 19 true (some 20) (.mv 20 (.t 0)),
      .gd 19 true (some 21) (.mv 21 (.t 3)),
      .gd 19 true (some 22) (.bin 22 .sub .num (.t 21) (.c (.d (.i .i64 1)))),
      .gd 19 true (some 23) (.ia 23 3 (.t 20) (.t 22)),
      .gd 19 true (some 24) (.ld 24 3 true (.t 23)),
      .gd 19 true (some 25) (.mv 25 (.t 0)),
      .gd 19 true (some 26) (.mv 26 (.t 3)),
      .gd 19 true (some 27) (.ia 27 3 (.t 25) (.t 26)),
      .gd 19 true (some 28) (.ld 28 3 true (.t 27)),
      .gd 19 true (some 29) (.call 29 true [] (.c (.clo sl10LessProp [])) [(.t 24), (.t 28)]),
      .gd 19 true (some 30) (.not 30 (.t 29)),
      .gd 16 false (some 31) (.pick 31 (.t 19) (.t 30) (.c (.d (.b false)))),
      .pick 32 (.t 16) (.c (.d (.b true))) (.t 31)]) [.keep [32, 3, 0]])
    (.cond (.t 32)
      (.pre [.keep []] (.seq (.r [.mv 2 (.c (.d (.b false)))])
      (.ret)))
      (.pre [.kill [32]] (.skip)))))
    (.r [.mv 8 (.t 3),
      .bin 9 .add .num (.t 8) (.c (.d (.i .i64 1))),
      .mv 3 (.t 9),
      .kill [8, 9]]))
def sPropsOk_m : Fn := ⟨1, [.t 2], false,
  .seq (.r [.mv 2 (.c (.d (.b false))),
    .kill [2]])
  (.seq (.seq (.r [.mv 3 (.c (.d (.i .i64 0)))])
  (.blk 0 (.pre [.keep [3, 0]] (.loop sPropsOk_l0))))
  (.seq (.r [.mv 33 (.t 0),
    .len 34 (.t 33),
    .bin 35 .leq .num (.t 34) (.c (.d (.i .i64 4))),
    .mv 2 (.t 35),
    .keep [2]])
  (.ret)))⟩
/-- live: [0, 3]; objects: [] -/
def sNameOk_l0 : C :=
  .seq (.seq (.r [.mv 4 (.t 3),
      .mv 5 (.t 0),
      .lns 6 (.t 5),
      .bin 7 .lss .num (.t 4) (.t 6),
      .kill [4, 5, 6]])
    (.cond (.t 7)
      (.pre [.kill [7]] (.skip))
      (.pre [.keep [0]] (.ex 0))))
    (.seq (.blk 1 (.seq (.r [.mv 10 (.t 0),
      .mv 11 (.t 3),
      .ix 12 (.t 10) (.t 11),
      .bin 13 .eql .num (.t 12) (.c (.d (.u 47))),
      .kill [10, 11, 12]])
    (.cond (.t 13)
      (.pre [.keep []] (.seq (.r [.mv 2 (.c (.d (.b false)))])
      (.ret)))
      (.pre [.kill [13]] (.skip)))))
    (.r [.mv 8 (.t 3),
      .bin 9 .add .num (.t 8) (.c (.d (.i .i64 1))),
      .mv 3 (.t 9),
      .kill [8, 9]]))
def sNameOk_m : Fn := ⟨1, [.t 2], false,
  .seq (.r [.mv 2 (.c (.d (.b false))),
    .kill [2]])
  (.seq (.seq (.r [.mv 3 (.c (.d (.i .i64 0)))])
  (.blk 0 (.pre [.keep [3, 0]] (.loop sNameOk_l0))))
  (.seq (.r [.mv 14 (.t 0),
    .lns 15 (.t 14),
    .call 16 true [] (.c (.clo sl1In [])) [(.t 15), (.c (.d (.i .i64 1))), (.c (.d (.i .i64 8)))],
    .mv 17 (.t 16),
    .gd 17 true (some 18) (.mv 18 (.t 0)),
    .gd 17 true (some 19) (.call 19 true [] (.c (.clo sPlain [])) [(.t 18)]),
    .pick 20 (.t 17) (.t 19) (.c (.d (.b false))),
    .kill [14, 15, 16, 17, 18, 19],
    .mv 21 (.t 20),
    .gd 21 true (some 22) (.mv 22 (.t 0)),
    .gd 21 true (some 23) (.bin 23 .neq .num (.t 22) (.c (.d (.s [46])))),
    .pick 24 (.t 21) (.t 23) (.c (.d (.b false))),
    .mv 25 (.t 24),
    .kill [20, 21, 22, 23, 24],
    .gd 25 true (some 26) (.mv 26 (.t 0)),
    .gd 25 true (some 27) (.bin 27 .neq .num (.t 26) (.c (.d (.s [46, 46])))),
    .pick 28 (.t 25) (.t 27) (.c (.d (.b false))),
    .mv 2 (.t 28),
    .keep [2]])
  (.ret)))⟩
/-- live: [0, 1, 6, 7]; objects: [70] -/
def sSetProps_l0 : C :=
  .seq (.seq (.r [.mv 11 (.t 7),
      .mv 12 (.t 1),
      .len 13 (.t 12),
      .bin 14 .lss .num (.t 11) (.t 13),
      .kill [11, 12, 13]])
    (.cond (.t 14)
      (.pre [.kill [14]] (.skip))
      (.pre [.keep [6, 0]] (.ex 0))))
    (.seq (.blk 1 (.seq (.seq (.r [.mv 17 (.t 1),
      .mv 18 (.t 7),
      .ia 19 4 (.t 17) (.t 18),
      .fa 20 (.t 19) 1,
      .ld 21 3 true (.t 20),
      .call 22 true [] (.c (.clo sl10Prop [])) [(.t 21)],
      .kill [17, 18, 19, 20, 21],
      .not 23 (.t 22),
      .keep [23, 7, 6, 1, 0]])
    (.cond (.t 23)
      (.pre [.keep [0], .drop [70]] (.seq (.r [.bs 24 TProp false 0 [.d (.s []), .d (.s []), .d (.s [])] [],
        .mv 25 (.t 0),
        .app 26 TProp false 48 (.t 24) (.t 25),
        .mv 4 (.t 26),
        .ren 90 68,
        .mv 5 (.c (.d (.b false))),
        .keep [5, 4],
        .drop [88, 90]])
      (.ret)))
      (.pre [.kill [23]] (.skip))))
    (.r [.mv 27 (.t 6),
      .mv 28 (.t 1),
      .mv 29 (.t 7),
      .ia 30 4 (.t 28) (.t 29),
      .ld 31 4 true (.t 30),
      .call 32 false [] (.c (.clo sl12One [])) [(.t 27), (.t 31)],
      .kill [6, 27, 28, 29, 30, 31],
      .mv 6 (.t 32),
      .ren 33064 70,
      .keep [7, 6, 1, 0],
      .drop [33064]])))
    (.r [.mv 15 (.t 7),
      .bin 16 .add .num (.t 15) (.c (.d (.i .i64 1))),
      .mv 7 (.t 16),
      .kill [15, 16]]))
def sSetProps_m : Fn := ⟨2, [.t 4, .t 5], false,
  .seq (.r [.mv 4 (.c (.nil TProp)),
    .opn 4 4 false,
    .mv 5 (.c (.d (.b false))),
    .kill [4, 5],
    .drop [68]])
  (.seq (.r [.bs 8 TProp false 0 [.d (.s []), .d (.s []), .d (.s [])] [],
    .mv 9 (.t 0),
    .app 10 TProp false 48 (.t 8) (.t 9),
    .mv 6 (.t 10),
    .ren 74 70,
    .kill [8, 9, 10],
    .drop [72, 74]])
  (.seq (.seq (.r [.mv 7 (.c (.d (.i .i64 0)))])
  (.blk 0 (.pre [.keep [7, 6, 1, 0]] (.loop sSetProps_l0))))
  (.seq (.seq (.r [.mv 33 (.t 6),
    .call 34 true [] (.c (.clo sPropsOk [])) [(.t 33)],
    .not 35 (.t 34),
    .kill [33, 34]])
  (.cond (.t 35)
    (.pre [.keep [0], .drop [70]] (.seq (.r [.bs 36 TProp false 0 [.d (.s []), .d (.s []), .d (.s [])] [],
      .mv 37 (.t 0),
      .app 38 TProp false 48 (.t 36) (.t 37),
      .mv 4 (.t 38),
      .ren 102 68,
      .mv 5 (.c (.d (.b false))),
      .keep [5, 4],
      .drop [100, 102]])
    (.ret)))
    (.pre [.keep [6]] (.skip))))
  (.seq (.r [.mv 39 (.t 6),
    .mv 4 (.t 39),
    .ren 70 68,
    .mv 5 (.c (.d (.b true))),
    .kill [6, 39],
    .drop [70]])
  (.ret)))))⟩
/-- live: [0, 5, 6, 7]; objects: [] -/
def iPropsOk_l0 : C :=
  .seq (.r [.bin 8 .lss .num (.t 7) (.t 6)])
    (.seq (.cond (.t 8)
      (.pre [.kill [8]] (.skip))
      (.pre [.keep [0]] (.ex 0)))
    (.seq (.blk 1 (.seq (.r [.mv 9 (.t 7),
      .ia 10 3 (.t 5) (.t 7),
      .ld 11 3 true (.t 10),
      .al 4 TProp false,
      .mv 3 (.t 9),
      .st 3 (.t 4) (.t 11),
      .kill [9, 10, 11]])
    (.seq (.post (.r [.ld 12 3 true (.t 4),
      .call 13 true [] (.c (.clo ipropOk [])) [(.t 12)],
      .not 14 (.t 13),
      .mv 15 (.t 14),
      .gd 15 false (some 16) (.mv 16 (.t 3)),
      .gd 15 false (some 17) (.bin 17 .gtr .num (.t 16) (.c (.d (.i .i64 0)))),
      .gd 15 false (some 18) (.mv 18 (.t 17)),
      .gd 18 true (some 19) (.mv 19 (.t 0)),
      .gd 18 true (some 20) (.mv 20 (.t 3)),
      .gd 18 true (some 21) (.bin 21 .sub .num (.t 20) (.c (.d (.i .i64 1)))),
      .gd 18 true (some 22) (.ia 22 3 (.t 19) (.t 21)),
      .gd 18 true (some 23) (.ld 23 3 true (.t 22)),
      .gd 18 true (some 24) (.ld 24 3 true (.t 4)),
      .gd 18 true (some 25) (.call 25 true [] (.c (.clo ilessProp [])) [(.t 23), (.t 24)]),
      .gd 18 true (some 26) (.not 26 (.t 25)),
      .gd 15 false (some 27) (.pick 27 (.t 18) (.t 26) (.c (.d (.b false)))),
      .pick 28 (.t 15) (.c (.d (.b true))) (.t 27)]) [.keep [28, 7, 6, 5, 0], .drop [68]])
    (.cond (.t 28)
      (.pre [.keep []] (.seq (.r [.mv 2 (.c (.d (.b false)))])
      (.ret)))
      (.pre [.kill [28]] (.skip))))))
    (.r [.bin 29 .add .num (.t 7) (.c (.d (.i .i64 1))),
      .mv 7 (.t 29),
      .kill [29]])))
def iPropsOk_m : Fn := ⟨1, [.t 2], false,
  .seq (.r [.mv 2 (.c (.d (.b false))),
    .kill [2]])
  (.seq (.seq (.r [.mv 5 (.t 0),
    .len 6 (.t 5),
    .mv 7 (.c (.d (.i .i64 0)))])
  (.blk 0 (.pre [.keep [7, 6, 5, 0]] (.loop iPropsOk_l0))))
  (.seq (.r [.mv 30 (.t 0),
    .len 31 (.t 30),
    .bin 32 .leq .num (.t 31) (.c (.d (.i .i64 4))),
    .mv 2 (.t 32),
    .keep [2]])
  (.ret)))⟩
/-- live: [0, 3]; objects: [] -/
def iPlain_l0 : C :=
  .seq (.seq (.r [.mv 4 (.t 3),
      .mv 5 (.t 0),
      .lns 6 (.t 5),
      .bin 7 .lss .num (.t 4) (.t 6),
      .kill [4, 5, 6]])
    (.cond (.t 7)
      (.pre [.kill [7]] (.skip))
      (.pre [.keep []] (.ex 0))))
    (.seq (.blk 1 (.seq (.r [.mv 10 (.t 0),
      .mv 11 (.t 3),
      .ix 12 (.t 10) (.t 11),
      .call 13 true [] (.c (.clo iisPlain [])) [(.t 12)],
      .not 14 (.t 13),
      .keep [14, 3, 0]])
    (.cond (.t 14)
      (.pre [.keep []] (.seq (.r [.mv 2 (.c (.d (.b false)))])
      (.ret)))
      (.pre [.kill [14]] (.skip)))))
    (.r [.mv 8 (.t 3),
      .bin 9 .add .num (.t 8) (.c (.d (.i .i64 1))),
      .mv 3 (.t 9),
      .kill [8, 9]]))
def iPlain_m : Fn := ⟨1, [.t 2], false,
  .seq (.r [.mv 2 (.c (.d (.b false))),
    .kill [2]])
  (.seq (.seq (.r [.mv 3 (.c (.d (.i .i64 0)))])
  (.blk 0 (.pre [.keep [3, 0]] (.loop iPlain_l0))))
  (.seq (.r [.mv 2 (.c (.d (.b true)))])
  (.ret)))⟩
def sl10Prop_m : Fn := ⟨1, [.t 2], false,
  .seq (.r [.bx 1 TProp false (.t 0),
    .mv 2 (.c (.d (.b false))),
    .keep [1]])
  (.seq (.r [.fa 3 (.t 1) 0,
    .ld 4 1 false (.t 3),
    .lns 5 (.t 4),
    .bin 6 .leq .num (.t 5) (.c (.d (.i .i64 20))),
    .mv 7 (.t 6),
    .gd 7 true (some 8) (.fa 8 (.t 1) 0),
    .gd 7 true (some 9) (.ld 9 1 false (.t 8)),
    .kill [3, 4, 5, 6, 8],
    .gd 7 true (some 10) (.call 10 true [] (.c (.clo sPlain [])) [(.t 9)]),
    .pick 11 (.t 7) (.t 10) (.c (.d (.b false))),
    .mv 12 (.t 11),
    .gd 12 true (some 13) (.fa 13 (.t 1) 1),
    .gd 12 true (some 14) (.ld 14 1 false (.t 13)),
    .kill [7, 9, 10, 11, 13],
    .gd 12 true (some 15) (.call 15 true [] (.c (.clo sSmallName [])) [(.t 14)]),
    .pick 16 (.t 12) (.t 15) (.c (.d (.b false))),
    .mv 17 (.t 16),
    .gd 17 true (some 18) (.fa 18 (.t 1) 2),
    .gd 17 true (some 19) (.ld 19 1 false (.t 18)),
    .kill [12, 14, 15, 16, 18],
    .gd 17 true (some 20) (.lns 20 (.t 19)),
    .gd 17 true (some 21) (.bin 21 .leq .num (.t 20) (.c (.d (.i .i64 20)))),
    .pick 22 (.t 17) (.t 21) (.c (.d (.b false))),
    .mv 23 (.t 22),
    .kill [17, 19, 20, 21, 22],
    .gd 23 true (some 24) (.fa 24 (.t 1) 2),
    .gd 23 true (some 25) (.ld 25 1 false (.t 24)),
    .gd 23 true (some 26) (.call 26 true [] (.c (.clo sPlain [])) [(.t 25)]),
    .pick 27 (.t 23) (.t 26) (.c (.d (.b false))),
    .kill [1, 23, 24, 25, 26],
    .mv 2 (.t 27),
    .keep [2],
    .drop [65]])
  (.ret))⟩
def sl10LessProp_m : Fn := ⟨2, [.t 4], false,
  .seq (.r [.bx 2 TProp false (.t 0),
    .bx 3 TProp false (.t 1),
    .mv 4 (.c (.d (.b false))),
    .keep [3, 2]])
  (.seq (.seq (.r [.fa 5 (.t 2) 0,
    .ld 6 1 false (.t 5),
    .fa 7 (.t 3) 0,
    .ld 8 1 false (.t 7),
    .bin 9 .neq .num (.t 6) (.t 8),
    .keep [9, 3, 2]])
  (.cond (.t 9)
    (.pre [.kill [9]] (.seq (.r [.fa 10 (.t 2) 0,
      .ld 11 1 false (.t 10),
      .fa 12 (.t 3) 0,
      .ld 13 1 false (.t 12),
      .bin 14 .lss .num (.t 11) (.t 13),
      .kill [2, 3, 10, 11, 12, 13],
      .mv 4 (.t 14),
      .keep [4],
      .drop [66, 67]])
    (.ret)))
    (.pre [.kill [9]] (.skip))))
  (.seq (.r [.fa 15 (.t 2) 1,
    .ld 16 1 false (.t 15),
    .fa 17 (.t 3) 1,
    .ld 18 1 false (.t 17),
    .bin 19 .lss .num (.t 16) (.t 18),
    .kill [2, 3, 15, 16, 17, 18],
    .mv 4 (.t 19),
    .keep [4],
    .drop [66, 67]])
  (.ret)))⟩
/-- live: [0, 3]; objects: [] -/
def sPlain_l0 : C :=
  .seq (.seq (.r [.mv 4 (.t 3),
      .mv 5 (.t 0),
      .lns 6 (.t 5),
      .bin 7 .lss .num (.t 4) (.t 6),
      .kill [4, 5, 6]])
    (.cond (.t 7)
      (.pre [.kill [7]] (.skip))
      (.pre [.keep []] (.ex 0))))
    (.seq (.blk 1 (.seq (.r [.mv 10 (.t 0),
      .mv 11 (.t 3),
      .ix 12 (.t 10) (.t 11),
      .cvi 13 .i64 (.t 12),
      .call 14 true [] (.c (.clo sl1In [])) [(.t 13), (.c (.d (.i .i64 32))), (.c (.d (.i .i64 126)))],
      .not 15 (.t 14),
      .keep [15, 3, 0]])
    (.cond (.t 15)
      (.pre [.keep []] (.seq (.r [.mv 2 (.c (.d (.b false)))])
      (.ret)))
      (.pre [.kill [15]] (.skip)))))
    (.r [.mv 8 (.t 3),
      .bin 9 .add .num (.t 8) (.c (.d (.i .i64 1))),
      .mv 3 (.t 9),
      .kill [8, 9]]))
def sPlain_m : Fn := ⟨1, [.t 2], false,
  .seq (.r [.mv 2 (.c (.d (.b false))),
    .kill [2]])
  (.seq (.seq (.r [.mv 3 (.c (.d (.i .i64 0)))])
  (.blk 0 (.pre [.keep [3, 0]] (.loop sPlain_l0))))
  (.seq (.r [.mv 2 (.c (.d (.b true)))])
  (.ret)))⟩
/-- live: [0, 3, 5, 6, 7]; objects: [67, 69] -/
def sl12One_l0 : C :=
  .seq (.seq (.r [.mv 11 (.t 7),
      .mv 12 (.t 0),
      .len 13 (.t 12),
      .bin 14 .lss .num (.t 11) (.t 13),
      .kill [11, 12, 13]])
    (.cond (.t 14)
      (.pre [.kill [14]] (.skip))
      (.pre [.kill [0, 7, 14]] (.ex 0))))
    (.seq (.blk 1 (.seq (.seq (.post (.r [.mv 17 (.t 6),
      .not 18 (.t 17),
      .mv 19 (.t 18),
      .gd 19 true (some 20) (.mv 20 (.t 0)),
      .gd 19 true (some 21) (.mv 21 (.t 7)),
      .gd 19 true (some 22) (.ia 22 3 (.t 20) (.t 21)),
      .gd 19 true (some 23) (.ld 23 3 true (.t 22)),
      .gd 19 true (some 24) (.fa 24 (.t 3) 1),
      .gd 19 true (some 25) (.ld 25 3 true (.t 24)),
      .gd 19 true (some 26) (.call 26 true [] (.c (.clo sl10LessProp [])) [(.t 23), (.t 25)]),
      .gd 19 true (some 27) (.not 27 (.t 26)),
      .pick 28 (.t 19) (.t 27) (.c (.d (.b false)))]) [.keep [28, 7, 6, 5, 3, 0]])
    (.cond (.t 28)
      (.pre [.kill [6, 28]] (.seq (.r [.mv 29 (.t 5),
        .fa 30 (.t 3) 1,
        .ld 31 3 true (.t 30),
        .bs 32 TProp false 1 [.d (.s []), .d (.s []), .d (.s [])] [(0, (.t 31))],
        .app 33 TProp false 48 (.t 29) (.t 32),
        .kill [5, 29, 30, 31, 32],
        .mv 5 (.t 33),
        .ren 97 69,
        .keep [7, 5, 3, 0],
        .drop [96, 97]])
      (.r [.mv 6 (.c (.d (.b true)))])))
      (.pre [.kill [28]] (.skip))))
    (.seq (.post (.r [.mv 34 (.t 0),
      .mv 35 (.t 7),
      .ia 36 3 (.t 34) (.t 35),
      .fa 37 (.t 36) 0,
      .ld 38 1 false (.t 37),
      .fa 39 (.t 3) 1,
      .fa 40 (.t 39) 0,
      .ld 41 1 false (.t 40),
      .bin 42 .neq .num (.t 38) (.t 41),
      .mv 43 (.t 42),
      .gd 43 false (some 44) (.mv 44 (.t 0)),
      .gd 43 false (some 45) (.mv 45 (.t 7)),
      .gd 43 false (some 46) (.ia 46 3 (.t 44) (.t 45)),
      .gd 43 false (some 47) (.fa 47 (.t 46) 1),
      .gd 43 false (some 48) (.ld 48 1 false (.t 47)),
      .gd 43 false (some 49) (.fa 49 (.t 3) 1),
      .gd 43 false (some 50) (.fa 50 (.t 49) 1),
      .gd 43 false (some 51) (.ld 51 1 false (.t 50)),
      .gd 43 false (some 52) (.bin 52 .neq .num (.t 48) (.t 51)),
      .pick 53 (.t 43) (.c (.d (.b true))) (.t 52)]) [.keep [53, 7, 6, 5, 3, 0]])
    (.cond (.t 53)
      (.pre [.kill [53]] (.r [.mv 54 (.t 5),
        .mv 55 (.t 0),
        .mv 56 (.t 7),
        .ia 57 3 (.t 55) (.t 56),
        .ld 58 3 true (.t 57),
        .bs 59 TProp false 1 [.d (.s []), .d (.s []), .d (.s [])] [(0, (.t 58))],
        .kill [5, 55, 56, 57, 58],
        .app 60 TProp false 48 (.t 54) (.t 59),
        .mv 5 (.t 60),
        .ren 124 69,
        .keep [7, 6, 5, 3, 0],
        .drop [123, 124]]))
      (.pre [.kill [53]] (.skip))))))
    (.r [.mv 15 (.t 7),
      .bin 16 .add .num (.t 15) (.c (.d (.i .i64 1))),
      .mv 7 (.t 16),
      .kill [15, 16]]))
def sl12One_m : Fn := ⟨2, [.t 4], false,
  .seq (.r [.bx 3 TSet false (.t 1),
    .mv 4 (.c (.nil TProp)),
    .opn 4 4 false,
    .kill [1, 4],
    .drop [68]])
  (.seq (.r [.bs 8 TProp false 0 [.d (.s []), .d (.s []), .d (.s [])] [],
    .mv 5 (.t 8),
    .ren 72 69,
    .kill [8],
    .drop [72]])
  (.seq (.r [.fa 9 (.t 3) 0,
    .ld 10 1 false (.t 9),
    .mv 6 (.t 10),
    .kill [9, 10]])
  (.seq (.seq (.r [.mv 7 (.c (.d (.i .i64 0)))])
  (.blk 0 (.pre [.keep [7, 6, 5, 3, 0]] (.loop sl12One_l0))))
  (.seq (.seq (.r [.mv 61 (.t 6),
    .not 62 (.t 61),
    .kill [6, 61]])
  (.cond (.t 62)
    (.pre [.kill [62]] (.r [.mv 63 (.t 5),
      .fa 64 (.t 3) 1,
      .ld 65 3 true (.t 64),
      .bs 66 TProp false 1 [.d (.s []), .d (.s []), .d (.s [])] [(0, (.t 65))],
      .app 67 TProp false 48 (.t 63) (.t 66),
      .kill [3, 5, 63, 64, 65, 66],
      .mv 5 (.t 67),
      .ren 131 69,
      .keep [5],
      .drop [67, 130, 131]]))
    (.pre [.keep [5], .drop [67]] (.skip))))
  (.seq (.r [.mv 68 (.t 5),
    .mv 4 (.t 68),
    .ren 69 68,
    .keep [4],
    .drop [69]])
  (.ret))))))⟩
def ipropOk_m : Fn := ⟨1, [.t 2], false,
  .seq (.r [.bx 1 TProp false (.t 0),
    .mv 2 (.c (.d (.b false))),
    .keep [1]])
  (.seq (.r [.fa 3 (.t 1) 0,
    .ld 4 1 false (.t 3),
    .lns 5 (.t 4),
    .bin 6 .leq .num (.t 5) (.c (.d (.i .i64 20))),
    .mv 7 (.t 6),
    .gd 7 true (some 8) (.fa 8 (.t 1) 0),
    .gd 7 true (some 9) (.ld 9 1 false (.t 8)),
    .kill [3, 4, 5, 6, 8],
    .gd 7 true (some 10) (.call 10 true [] (.c (.clo iPlain [])) [(.t 9)]),
    .pick 11 (.t 7) (.t 10) (.c (.d (.b false))),
    .mv 12 (.t 11),
    .gd 12 true (some 13) (.fa 13 (.t 1) 1),
    .gd 12 true (some 14) (.ld 14 1 false (.t 13)),
    .kill [7, 9, 10, 11, 13],
    .gd 12 true (some 15) (.call 15 true [] (.c (.clo iSmallName [])) [(.t 14)]),
    .pick 16 (.t 12) (.t 15) (.c (.d (.b false))),
    .mv 17 (.t 16),
    .gd 17 true (some 18) (.fa 18 (.t 1) 2),
    .gd 17 true (some 19) (.ld 19 1 false (.t 18)),
    .kill [12, 14, 15, 16, 18],
    .gd 17 true (some 20) (.lns 20 (.t 19)),
    .gd 17 true (some 21) (.bin 21 .leq .num (.t 20) (.c (.d (.i .i64 20)))),
    .pick 22 (.t 17) (.t 21) (.c (.d (.b false))),
    .mv 23 (.t 22),
    .kill [17, 19, 20, 21, 22],
    .gd 23 true (some 24) (.fa 24 (.t 1) 2),
    .gd 23 true (some 25) (.ld 25 1 false (.t 24)),
    .gd 23 true (some 26) (.call 26 true [] (.c (.clo iPlain [])) [(.t 25)]),
    .pick 27 (.t 23) (.t 26) (.c (.d (.b false))),
    .kill [1, 23, 24, 25, 26],
    .mv 2 (.t 27),
    .keep [2],
    .drop [65]])
  (.ret))⟩
def ilessProp_m : Fn := ⟨2, [.t 4], false,
  .seq (.r [.bx 2 TProp false (.t 0),
    .bx 3 TProp false (.t 1),
    .mv 4 (.c (.d (.b false))),
    .keep [3, 2]])
  (.seq (.r [.fa 5 (.t 2) 0,
    .ld 6 1 false (.t 5),
    .fa 7 (.t 3) 0,
    .ld 8 1 false (.t 7),
    .bin 9 .lss .num (.t 6) (.t 8),
    .mv 10 (.t 9),
    .kill [5, 6, 7, 8, 9],
    .gd 10 false (some 11) (.fa 11 (.t 2) 0),
    .gd 10 false (some 12) (.ld 12 1 false (.t 11)),
    .gd 10 false (some 13) (.fa 13 (.t 3) 0),
    .gd 10 false (some 14) (.ld 14 1 false (.t 13)),
    .gd 10 false (some 15) (.bin 15 .eql .num (.t 12) (.t 14)),
    .gd 10 false (some 16) (.mv 16 (.t 15)),
    .kill [11, 12, 13, 14, 15],
    .gd 16 true (some 17) (.fa 17 (.t 2) 1),
    .gd 16 true (some 18) (.ld 18 1 false (.t 17)),
    .gd 16 true (some 19) (.fa 19 (.t 3) 1),
    .gd 16 true (some 20) (.ld 20 1 false (.t 19)),
    .gd 16 true (some 21) (.bin 21 .lss .num (.t 18) (.t 20)),
    .kill [2, 3, 17, 18, 19, 20],
    .gd 10 false (some 22) (.pick 22 (.t 16) (.t 21) (.c (.d (.b false)))),
    .pick 23 (.t 10) (.c (.d (.b true))) (.t 22),
    .mv 4 (.t 23),
    .keep [4],
    .drop [66, 67]])
  (.ret))⟩
def iisPlain_m : Fn := ⟨1, [.t 2], false,
  .seq (.r [.mv 2 (.c (.d (.b false))),
    .kill [2]])
  (.seq (.r [.mv 3 (.t 0),
    .bin 4 .geq .num (.t 3) (.c (.d (.u 32))),
    .mv 5 (.t 4),
    .gd 5 true (some 6) (.mv 6 (.t 0)),
    .gd 5 true (some 7) (.bin 7 .leq .num (.t 6) (.c (.d (.u 126)))),
    .pick 8 (.t 5) (.t 7) (.c (.d (.b false))),
    .kill [0, 3, 4, 5, 6, 7],
    .mv 2 (.t 8),
    .keep [2]])
  (.ret))⟩
/-- live: [0, 3]; objects: [] -/
def sSmallName_l0 : C :=
  .seq (.seq (.r [.mv 4 (.t 3),
      .mv 5 (.t 0),
      .lns 6 (.t 5),
      .bin 7 .lss .num (.t 4) (.t 6),
      .kill [4, 5, 6]])
    (.cond (.t 7)
      (.pre [.kill [7]] (.skip))
      (.pre [.keep [0]] (.ex 0))))
    (.seq (.blk 1 (.seq (.r [.mv 10 (.t 0),
      .mv 11 (.t 3),
      .ix 12 (.t 10) (.t 11),
      .call 13 true [] (.c (.clo sl1Small [])) [(.t 12)],
      .not 14 (.t 13),
      .mv 15 (.t 14),
      .kill [10, 11, 12, 13, 14],
      .gd 15 true (some 16) (.mv 16 (.t 3)),
      .gd 15 true (some 17) (.bin 17 .eql .num (.t 16) (.c (.d (.i .i64 0)))),
      .gd 15 true (some 18) (.mv 18 (.t 17)),
      .gd 18 false (some 19) (.mv 19 (.t 0)),
      .gd 18 false (some 20) (.mv 20 (.t 3)),
      .gd 18 false (some 21) (.ix 21 (.t 19) (.t 20)),
      .gd 18 false (some 22) (.call 22 true [] (.c (.clo sl1Digit [])) [(.t 21)]),
      .kill [16, 17, 19, 20, 21],
      .gd 18 false (some 23) (.not 23 (.t 22)),
      .gd 18 false (some 24) (.mv 24 (.t 23)),
      .gd 24 true (some 25) (.mv 25 (.t 0)),
      .gd 24 true (some 26) (.mv 26 (.t 3)),
      .gd 24 true (some 27) (.ix 27 (.t 25) (.t 26)),
      .gd 24 true (some 28) (.bin 28 .neq .num (.t 27) (.c (.d (.u 45)))),
      .kill [22, 23, 25, 26, 27],
      .gd 18 false (some 29) (.pick 29 (.t 24) (.t 28) (.c (.d (.b false)))),
      .gd 15 true (some 30) (.pick 30 (.t 18) (.c (.d (.b true))) (.t 29)),
      .pick 31 (.t 15) (.t 30) (.c (.d (.b false))),
      .keep [31, 3, 0]])
    (.cond (.t 31)
      (.pre [.keep []] (.seq (.r [.mv 2 (.c (.d (.b false)))])
      (.ret)))
      (.pre [.kill [31]] (.skip)))))
    (.r [.mv 8 (.t 3),
      .bin 9 .add .num (.t 8) (.c (.d (.i .i64 1))),
      .mv 3 (.t 9),
      .kill [8, 9]]))
def sSmallName_m : Fn := ⟨1, [.t 2], false,
  .seq (.r [.mv 2 (.c (.d (.b false))),
    .kill [2]])
  (.seq (.seq (.r [.mv 3 (.c (.d (.i .i64 0)))])
  (.blk 0 (.pre [.keep [3, 0]] (.loop sSmallName_l0))))
  (.seq (.r [.mv 32 (.t 0),
    .lns 33 (.t 32),
    .call 34 true [] (.c (.clo sl1In [])) [(.t 33), (.c (.d (.i .i64 1))), (.c (.d (.i .i64 20)))],
    .mv 2 (.t 34),
    .keep [2]])
  (.ret)))⟩
/-- live: [0, 3]; objects: [] -/
def iSmallName_l0 : C :=
  .seq (.seq (.r [.mv 4 (.t 3),
      .mv 5 (.t 0),
      .lns 6 (.t 5),
      .bin 7 .lss .num (.t 4) (.t 6),
      .kill [4, 5, 6]])
    (.cond (.t 7)
      (.pre [.kill [7]] (.skip))
      (.pre [.keep [0]] (.ex 0))))
    (.seq (.blk 1 (.seq (.r [.mv 10 (.t 0),
      .mv 11 (.t 3),
      .ix 12 (.t 10) (.t 11),
      .call 13 true [] (.c (.clo iisSmall [])) [(.t 12)],
      .not 14 (.t 13),
      .mv 15 (.t 14),
      .kill [10, 11, 12, 13, 14],
      .gd 15 true (some 16) (.mv 16 (.t 3)),
      .gd 15 true (some 17) (.bin 17 .eql .num (.t 16) (.c (.d (.i .i64 0)))),
      .gd 15 true (some 18) (.mv 18 (.t 17)),
      .gd 18 false (some 19) (.mv 19 (.t 0)),
      .gd 18 false (some 20) (.mv 20 (.t 3)),
      .gd 18 false (some 21) (.ix 21 (.t 19) (.t 20)),
      .gd 18 false (some 22) (.call 22 true [] (.c (.clo iisDigit [])) [(.t 21)]),
      .kill [16, 17, 19, 20, 21],
      .gd 18 false (some 23) (.not 23 (.t 22)),
      .gd 18 false (some 24) (.mv 24 (.t 23)),
      .gd 24 true (some 25) (.mv 25 (.t 0)),
      .gd 24 true (some 26) (.mv 26 (.t 3)),
      .gd 24 true (some 27) (.ix 27 (.t 25) (.t 26)),
      .gd 24 true (some 28) (.bin 28 .neq .num (.t 27) (.c (.d (.u 45)))),
      .kill [22, 23, 25, 26, 27],
      .gd 18 false (some 29) (.pick 29 (.t 24) (.t 28) (.c (.d (.b false)))),
      .gd 15 true (some 30) (.pick 30 (.t 18) (.c (.d (.b true))) (.t 29)),
      .pick 31 (.t 15) (.t 30) (.c (.d (.b false))),
      .keep [31, 3, 0]])
    (.cond (.t 31)
      (.pre [.keep []] (.seq (.r [.mv 2 (.c (.d (.b false)))])
      (.ret)))
      (.pre [.kill [31]] (.skip)))))
    (.r [.mv 8 (.t 3),
      .bin 9 .add .num (.t 8) (.c (.d (.i .i64 1))),
      .mv 3 (.t 9),
      .kill [8, 9]]))
def iSmallName_m : Fn := ⟨1, [.t 2], false,
  .seq (.r [.mv 2 (.c (.d (.b false))),
    .kill [2]])
  (.seq (.seq (.r [.mv 3 (.c (.d (.i .i64 0)))])
  (.blk 0 (.pre [.keep [3, 0]] (.loop iSmallName_l0))))
  (.seq (.r [.mv 32 (.t 0),
    .lns 33 (.t 32),
    .call 34 true [] (.c (.clo iin [])) [(.t 33), (.c (.d (.i .i64 1))), (.c (.d (.i .i64 20)))],
    .mv 2 (.t 34),
    .keep [2]])
  (.ret)))⟩
def sl1Small_m : Fn := ⟨1, [.t 2], false,
  .seq (.r [.mv 2 (.c (.d (.b false))),
    .kill [2]])
  (.seq (.r [.mv 3 (.t 0),
    .cvi 4 .i64 (.t 3),
    .call 5 true [] (.c (.clo sl1In [])) [(.t 4), (.c (.d (.i .i64 97))), (.c (.d (.i .i64 122)))],
    .mv 2 (.t 5),
    .keep [2]])
  (.ret))⟩
def sl1Digit_m : Fn := ⟨1, [.t 2], false,
  .seq (.r [.mv 2 (.c (.d (.b false))),
    .kill [2]])
  (.seq (.r [.mv 3 (.t 0),
    .cvi 4 .i64 (.t 3),
    .call 5 true [] (.c (.clo sl1In [])) [(.t 4), (.c (.d (.i .i64 48))), (.c (.d (.i .i64 57)))],
    .mv 2 (.t 5),
    .keep [2]])
  (.ret))⟩
def iisSmall_m : Fn := ⟨1, [.t 2], false,
  .seq (.r [.mv 2 (.c (.d (.b false))),
    .kill [2]])
  (.seq (.r [.mv 3 (.t 0),
    .bin 4 .geq .num (.t 3) (.c (.d (.u 97))),
    .mv 5 (.t 4),
    .gd 5 true (some 6) (.mv 6 (.t 0)),
    .gd 5 true (some 7) (.bin 7 .leq .num (.t 6) (.c (.d (.u 122)))),
    .pick 8 (.t 5) (.t 7) (.c (.d (.b false))),
    .kill [0, 3, 4, 5, 6, 7],
    .mv 2 (.t 8),
    .keep [2]])
  (.ret))⟩
def iisDigit_m : Fn := ⟨1, [.t 2], false,
  .seq (.r [.mv 2 (.c (.d (.b false))),
    .kill [2]])
  (.seq (.r [.mv 3 (.t 0),
    .bin 4 .geq .num (.t 3) (.c (.d (.u 48))),
    .mv 5 (.t 4),
    .gd 5 true (some 6) (.mv 6 (.t 0)),
    .gd 5 true (some 7) (.bin 7 .leq .num (.t 6) (.c (.d (.u 57)))),
    .pick 8 (.t 5) (.t 7) (.c (.d (.b false))),
    .kill [0, 3, 4, 5, 6, 7],
    .mv 2 (.t 8),
    .keep [2]])
  (.ret))⟩
def tabL : List (Nat × Fn) := [(wFnShelvesBent, wFnShelvesBent_m), (wbig, wbig_m), (sDrawCopyTree, sDrawCopyTree_m), (iCopyTree, iCopyTree_m), (sCopyTree, sCopyTree_m), (iMoveTree, iMoveTree_m), (sMoveTree, sMoveTree_m), (sDrawPutFile, sDrawPutFile_m), (iPutFile, iPutFile_m), (sPutFile, sPutFile_m), (sDrawMakeColl, sDrawMakeColl_m), (iMakeColl, iMakeColl_m), (sMakeColl, sMakeColl_m), (sDrawRemove, sDrawRemove_m), (iRemove, iRemove_m), (sRemove, sRemove_m), (wsameTree, wsameTree_m), (iWide, iWide_m), (sWide, sWide_m), (sl1New, sl1New_m), (sl10Any, sl10Any_m), (sl10Path, sl10Path_m), (sl1Once, sl1Once_m), (sl2Any, sl2Any_m), (sl11Ver, sl11Ver_m), (iopForm, iopForm_m), (icopyTree, icopyTree_m), (icopied, icopied_m), (sl11Far, sl11Far_m), (iwithout, iwithout_m), (sl1Str, sl1Str_m), (sl1Below, sl1Below_m), (iFindRes, iFindRes_m), (iIsColl, iIsColl_m), (iAbove, iAbove_m), (iwithRes, iwithRes_m), (icopyPath, icopyPath_m), (sl11May, sl11May_m), (sFindRes, sFindRes_m), (sIsColl, sIsColl_m), (sAbove, sAbove_m), (sl10CopyAll, sl10CopyAll_m), (sl11Put, sl11Put_m), (sl11Without, sl11Without_m), (wsameRes, wsameRes_m), (sl10Draw, sl10Draw_m), (sl1Int, sl1Int_m), (sl10OneProp, sl10OneProp_m), (sNumText, sNumText_m), (sl2Name, sl2Name_m), (sl2Draw, sl2Draw_m), (iin, iin_m), (iTreeOk, iTreeOk_m), (iPathOk, iPathOk_m), (icopyRes, icopyRes_m), (iisAt, iisAt_m), (iDeepOf, iDeepOf_m), (sDeepOf, sDeepOf_m), (sSamePath, sSamePath_m), (sUnder, sUnder_m), (sl11Long, sl11Long_m), (sl10Copy, sl10Copy_m), (sl1Byte, sl1Byte_m), (iSamePath, iSamePath_m), (iLessPath, iLessPath_m), (sl1In, sl1In_m), (sTreeOk, sTreeOk_m), (sPathOk, sPathOk_m), (sLessPath, sLessPath_m), (wsameTexts, wsameTexts_m), (wsameProps, wsameProps_m), (sl10Props, sl10Props_m), (iresOk, iresOk_m), (iNameOk, iNameOk_m), (iUnder, iUnder_m), (sPropsOk, sPropsOk_m), (sNameOk, sNameOk_m), (sSetProps, sSetProps_m), (iPropsOk, iPropsOk_m), (iPlain, iPlain_m), (sl10Prop, sl10Prop_m), (sl10LessProp, sl10LessProp_m), (sPlain, sPlain_m), (sl12One, sl12One_m), (ipropOk, ipropOk_m), (ilessProp, ilessProp_m), (iisPlain, iisPlain_m), (sSmallName, sSmallName_m), (iSmallName, iSmallName_m), (sl1Small, sl1Small_m), (sl1Digit, sl1Digit_m), (iisSmall, iisSmall_m), (iisDigit, iisDigit_m)]
end Go.Proofs.YtfklggpopffkjaaGreatK
