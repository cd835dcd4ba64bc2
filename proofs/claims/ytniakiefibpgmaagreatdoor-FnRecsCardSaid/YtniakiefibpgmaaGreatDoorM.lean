import Derived.Test.YtniakiefibpgmaaGreatDoorJ24
import Derived.Test.YtniakiefibpgmaaGreatDoorProg
import Derived.KernelRfl
set_option linter.unusedVariables false
set_option linter.unusedSimpArgs false
namespace Go.Proofs.YtniakiefibpgmaaGreatDoorK
open Go.RowKit
def wFnRecs : Nat := 3
def wbig : Nat := 7
def sDrawPutRec : Nat := 8
def iPutRec : Nat := 9
def sDrawGetRec : Nat := 10
def iGetRec : Nat := 11
def sGetRec : Nat := 12
def sPutRec : Nat := 13
def iSameReq : Nat := 14
def sl1New : Nat := 34
def sl1Int : Nat := 35
def sl3Any : Nat := 36
def sl1Bytes : Nat := 37
def sl1Below : Nat := 38
def icopyBytes : Nat := 39
def iputRec : Nat := 40
def sl3Draw : Nat := 41
def iGetReq : Nat := 42
def sl1In : Nat := 43
def sGetReq : Nat := 44
def sPutReq : Nat := 45
def isameHeads : Nat := 46
def sl1Str : Nat := 64
def sl1Byte : Nat := 65
def iin : Nat := 58
def iPutReq : Nat := 66
def sl3DrawHeads : Nat := 67
def sl3Body : Nat := 68
def iHeadEnd : Nat := 69
def ireadHead : Nat := 70
def iGetChunks : Nat := 71
def sHeadEnd : Nat := 72
def sl3Read : Nat := 73
def sGetChunks : Nat := 74
def sl3Put : Nat := 75
def sNumText : Nat := 76
def ilengthText : Nat := 95
def iputReq : Nat := 96
def ilineOk : Nat := 99
def ireqHead_line : Nat := 100
def iLower : Nat := 101
def ichunks_size : Nat := 102
def ichunks_end : Nat := 103
def sl3Lines : Nat := 104
def sl3First : Nat := 105
def sl3Head : Nat := 106
def sl3Least : Nat := 107
def sl4Size : Nat := 108
def sl4End : Nat := 109
def sl3HeadsText : Nat := 110
def sReqOk : Nat := 111
def iNumText : Nat := 32
def iReqOk : Nat := 85
def iheadText : Nat := 136
def iisLarge : Nat := 139
def iPlain : Nat := 140
def iTrim : Nat := 143
def iSmallName : Nat := 144
def ivalOk : Nat := 145
def ireqHead_special : Nat := 146
def iParseHex : Nat := 147
def sl2Split : Nat := 148
def sl3Method : Nat := 149
def sl3Target : Nat := 150
def sLower : Nat := 151
def sTrim : Nat := 152
def sSmallName : Nat := 153
def sl3Val : Nat := 154
def sParseNum : Nat := 155
def sParseHex : Nat := 156
def sl3Heads : Nat := 157
def iheadsOk : Nat := 121
def iisPlain : Nat := 204
def iisSmall : Nat := 207
def iisDigit : Nat := 208
def iParseNum : Nat := 184
def idigitOf : Nat := 209
def sl1Large : Nat := 210
def sl1Blank : Nat := 211
def sl1Small : Nat := 212
def sl1Digit : Nat := 213
def sPlain : Nat := 214
def sl1HexOf : Nat := 215
def x_strings_Index : Nat := 97
def x_strings_Split : Nat := 98
def x_strings_Contains : Nat := 141
def x_strings_Cut : Nat := 142
def x_strconv_Itoa : Nat := 60
def x_strings_Trim : Nat := 206
def x_strconv_Atoi : Nat := 245
abbrev THead : T := .pr .str .str
abbrev TReq : T := .pr .str (.pr .str (.pr (.sl THead) .str))
abbrev TRec : T := .pr (.int .i64) (.pr (.int .i64) TReq)
abbrev Tl1Cur : T := .pr (.sl .u8) (.pr (.int .i64) (.int .i64))
abbrev TreqHead : T := .pr TReq (.pr .str (.pr .bool (.pr (.int .i64) (.pr .bool .bool))))
abbrev Tl3Frame : T := .pr TReq (.pr (.int .i64) (.pr (.int .i64) (.sl (.int .i64))))
abbrev Tchunks : T := .pr .str (.int .i64)
def wFnRecs_m : Fn := ⟨1, [.t 2], false,
 .seq (.r [.mv 2 (.c (.d (.b false))),
 .kill [2]])
 (.seq (.seq (.r [.mv 20 (.t 0),
 .call 21 true [] (.c (.clo wbig [])) [(.t 20)],
 .kill [20]])
 (.cond (.t 21)
 (.pre [.keep []] (.seq (.r [.mv 2 (.c (.d (.b true)))])
 (.ret)))
 (.pre [.kill [21]] (.skip))))
 (.seq (.r [.mv 23 (.t 0),
 .call 24 false [] (.c (.clo sDrawPutRec [])) [(.t 23)],
 .mv 22 (.t 24),
 .ext 25 (.t 22) 0,
 .ext 26 (.t 22) 1,
 .al 4 TRec false,
 .mv 3 (.t 25),
 .st 6 (.t 4) (.t 26),
 .keep [4, 3, 0],
 .drop [25084]])
 (.seq (.r [.mv 27 (.t 3),
 .ld 28 6 true (.t 4),
 .call 29 true [] (.c (.clo iPutRec [])) [(.t 27), (.t 28)],
 .mv 5 (.t 29),
 .kill [27, 28, 29]])
 (.seq (.r [.mv 31 (.t 0),
 .call 32 true [] (.c (.clo sDrawGetRec [])) [(.t 31)],
 .mv 30 (.t 32),
 .ext 33 (.t 30) 0,
 .ext 34 (.t 30) 1,
 .mv 6 (.t 33),
 .kill [0, 30, 31, 32, 33],
 .mv 7 (.t 34),
 .keep [7, 6, 5, 4, 3]])
 (.seq (.r [.mv 36 (.t 6),
 .mv 37 (.t 7),
 .call 38 false [] (.c (.clo iGetRec [])) [(.t 36), (.t 37)],
 .mv 35 (.t 38),
 .ext 39 (.t 35) 0,
 .ext 40 (.t 35) 1,
 .ext 41 (.t 35) 2,
 .al 8 TRec false,
 .st 6 (.t 8) (.t 39),
 .kill [35, 36, 37, 38, 39],
 .mv 9 (.t 40),
 .mv 10 (.t 41),
 .kill [35, 36, 37, 38, 39, 40, 41],
 .drop [39068]])
 (.seq (.r [.mv 43 (.t 6),
 .mv 44 (.t 7),
 .call 45 true [] (.c (.clo sGetRec [])) [(.t 43), (.t 44)],
 .mv 42 (.t 45),
 .ext 46 (.t 42) 0,
 .ext 47 (.t 42) 1,
 .ext 48 (.t 42) 2,
 .al 11 TRec true,
 .st 6 (.t 11) (.t 46),
 .kill [11, 42, 43, 44, 45, 46],
 .mv 12 (.t 47),
 .mv 13 (.t 48),
 .kill [11, 12, 42, 43, 44, 45, 46, 47, 48],
 .drop [75]])
 (.seq (.seq (.post (.r [.mv 49 (.t 10),
 .mv 50 (.t 13),
 .bin 51 .neq .flag (.t 49) (.t 50),
 .mv 52 (.t 51),
 .gd 52 false (some 53) (.mv 53 (.t 10)),
 .gd 52 false (some 54) (.mv 54 (.t 53)),
 .an [] [] [119] [] (.gd 54 true (some 55) (.bs 55 .u8 false 0 [.d (.u 0)] [])),
 .an [119] [] [] [] (.gd 54 true (some 56) (.ld 56 6 true (.t 8))),
 .gd 54 true (some 57) (.call 57 true [] (.c (.clo iPutRec [])) [(.t 55), (.t 56)]),
 .gd 54 true (some 58) (.b2s 58 (.t 57)),
 .an [119] [] [] [] (.gd 54 true (some 59) (.mv 59 (.t 6))),
 .an [119] [] [] [] (.gd 54 true (some 60) (.mv 60 (.t 7))),
 .an [119] [] [] [] (.gd 54 true (some 61) (.mv 61 (.t 9))),
 .an [119] [] [] [] (.gd 54 true (some 62) (.slc 62 1 (.t 59) (some (.t 60)) (some (.t 61)))),
 .an [119] [] [] [] (.gd 54 true (some 63) (.b2s 63 (.t 62))),
 .gd 54 true (some 64) (.bin 64 .neq .num (.t 58) (.t 63)),
 .gd 52 false (some 65) (.pick 65 (.t 54) (.t 64) (.c (.d (.b false)))),
 .pick 66 (.t 52) (.c (.d (.b true))) (.t 65),
 .mv 67 (.t 66),
 .gd 67 false (some 68) (.mv 68 (.t 5)),
 .gd 67 false (some 69) (.b2s 69 (.t 68)),
 .gd 67 false (some 70) (.mv 70 (.t 3)),
 .gd 67 false (some 71) (.ld 71 6 true (.t 4)),
 .gd 67 false (some 72) (.call 72 true [] (.c (.clo sPutRec [])) [(.t 70), (.t 71)]),
 .gd 67 false (some 73) (.b2s 73 (.t 72)),
 .gd 67 false (some 74) (.bin 74 .neq .num (.t 69) (.t 73)),
 .pick 75 (.t 67) (.c (.d (.b true))) (.t 74)]) [.keep [75, 10, 5, 4, 3], .drop [72, 119]])
 (.cond (.t 75)
 (.pre [.keep [], .drop [68, 25064]] (.seq (.r [.mv 2 (.c (.d (.b false)))])
 (.ret)))
 (.pre [.kill [75]] (.skip))))
 (.seq (.seq (.r [.mv 76 (.t 5),
 .len 77 (.t 76),
 .mv 78 (.t 3),
 .len 79 (.t 78),
 .bin 80 .eql .num (.t 77) (.t 79),
 .kill [76, 77, 78, 79]])
 (.cond (.t 80)
 (.pre [.kill [4, 80], .drop [68]] (.seq (.r [.mv 81 (.t 5),
 .b2s 82 (.t 81),
 .mv 83 (.t 3),
 .b2s 84 (.t 83),
 .bin 85 .eql .num (.t 82) (.t 84),
 .kill [3, 5, 81, 82, 83, 84],
 .mv 86 (.t 85),
 .gd 86 true (some 87) (.mv 87 (.t 10)),
 .gd 86 true (some 88) (.not 88 (.t 87)),
 .pick 89 (.t 86) (.t 88) (.c (.d (.b false))),
 .mv 90 (.t 89),
 .kill [85, 86, 87, 88, 89],
 .gd 90 false (some 91) (.mv 91 (.t 10)),
 .pick 92 (.t 90) (.c (.d (.b true))) (.t 91),
 .mv 2 (.t 92),
 .keep [2],
 .drop [25064]])
 (.ret)))
 (.pre [.kill [10, 80]] (.skip))))
 (.seq (.r [.mv 94 (.t 5),
 .mv 95 (.t 3),
 .len 96 (.t 95),
 .call 97 false [] (.c (.clo iGetRec [])) [(.t 94), (.t 96)],
 .mv 93 (.t 97),
 .ext 98 (.t 93) 0,
 .ext 99 (.t 93) 1,
 .ext 100 (.t 93) 2,
 .kill [93, 94, 95, 96, 97],
 .al 14 TRec false,
 .st 6 (.t 14) (.t 98),
 .mv 15 (.t 99),
 .mv 16 (.t 100),
 .keep [16, 15, 14, 5, 4, 3],
 .drop [98068]])
 (.seq (.r [.mv 102 (.t 5),
 .mv 103 (.t 5),
 .len 104 (.t 103),
 .bin 105 .sub .num (.t 104) (.c (.d (.i .i64 1))),
 .slc 106 1 (.t 102) none (some (.t 105)),
 .mv 107 (.t 3),
 .kill [3, 102, 103, 104, 105],
 .len 108 (.t 107),
 .call 109 false [] (.c (.clo iGetRec [])) [(.t 106), (.t 108)],
 .mv 101 (.t 109),
 .ext 110 (.t 101) 0,
 .ext 111 (.t 101) 1,
 .ext 112 (.t 101) 2,
 .kill [101, 106, 107, 108, 109],
 .al 17 TRec false,
 .st 6 (.t 17) (.t 110),
 .mv 18 (.t 111),
 .mv 19 (.t 112),
 .keep [19, 16, 15, 14, 5, 4],
 .drop [81, 25064, 110068]])
 (.seq (.r [.mv 113 (.t 16),
 .mv 114 (.t 113),
 .gd 114 true (some 115) (.mv 115 (.t 15)),
 .gd 114 true (some 116) (.mv 116 (.t 5)),
 .gd 114 true (some 117) (.len 117 (.t 116)),
 .kill [5, 15, 16, 113, 116],
 .gd 114 true (some 118) (.bin 118 .eql .num (.t 115) (.t 117)),
 .pick 119 (.t 114) (.t 118) (.c (.d (.b false))),
 .mv 120 (.t 119),
 .kill [114, 115, 117, 118, 119],
 .gd 120 true (some 121) (.fa 121 (.t 14) 0),
 .gd 120 true (some 122) (.ld 122 1 false (.t 121)),
 .gd 120 true (some 123) (.fa 123 (.t 4) 0),
 .gd 120 true (some 124) (.ld 124 1 false (.t 123)),
 .gd 120 true (some 125) (.bin 125 .eql .num (.t 122) (.t 124)),
 .pick 126 (.t 120) (.t 125) (.c (.d (.b false))),
 .kill [120, 121, 122, 123, 124, 125],
 .mv 127 (.t 126),
 .gd 127 true (some 128) (.fa 128 (.t 14) 1),
 .gd 127 true (some 129) (.ld 129 1 false (.t 128)),
 .gd 127 true (some 130) (.fa 130 (.t 4) 1),
 .gd 127 true (some 131) (.ld 131 1 false (.t 130)),
 .gd 127 true (some 132) (.bin 132 .eql .num (.t 129) (.t 131)),
 .kill [126, 128, 129, 130, 131],
 .pick 133 (.t 127) (.t 132) (.c (.d (.b false))),
 .mv 134 (.t 133),
 .gd 134 true (some 135) (.fa 135 (.t 14) 2),
 .gd 134 true (some 136) (.ld 136 4 true (.t 135)),
 .kill [14, 127, 132, 133, 135],
 .gd 134 true (some 137) (.fa 137 (.t 4) 2),
 .gd 134 true (some 138) (.ld 138 4 true (.t 137)),
 .gd 134 true (some 139) (.call 139 true [] (.c (.clo iSameReq [])) [(.t 136), (.t 138)]),
 .pick 140 (.t 134) (.t 139) (.c (.d (.b false))),
 .kill [4, 134, 136, 137, 138, 139],
 .mv 141 (.t 140),
 .gd 141 true (some 142) (.mv 142 (.t 19)),
 .gd 141 true (some 143) (.not 143 (.t 142)),
 .pick 144 (.t 141) (.t 143) (.c (.d (.b false))),
 .kill [19, 140, 141, 142, 143],
 .mv 2 (.t 144),
 .keep [2],
 .drop [68, 78]])
 (.ret))))))))))))⟩
def wbig_m : Fn := ⟨1, [.t 2], false,
 .seq (.r [.mv 2 (.c (.d (.b false))),
 .kill [2]])
 (.seq (.r [.mv 3 (.t 0),
 .len 4 (.t 3),
 .bin 5 .gtr .num (.t 4) (.c (.d (.i .i64 1048576))),
 .mv 2 (.t 5),
 .keep [2]])
 (.ret))⟩
def sDrawPutRec_m : Fn := ⟨1, [.t 2, .cell 3 6 true], false,
 .seq (.r [.mv 2 (.c (.nil .u8)),
 .opn 2 2 false,
 .al 3 TRec false,
 .kill [2],
 .drop [66]])
 (.seq (.r [.mv 6 (.t 0),
 .call 7 false [] (.c (.clo sl1New [])) [(.t 6)],
 .mv 4 (.t 7),
 .keep [4, 3]])
 (.seq (.r [.mv 8 (.t 4),
 .bs 9 (.int .i64) false 5 [.d (.i .i64 0)] [(0, (.c (.d (.i .i64 0)))), (1, (.c (.d (.i .i64 5)))), (2, (.c (.d (.i .i64 9999999)))), (3, (.c (.d (.i .i64 (-1))))), (4, (.c (.d (.i .i64 10000000))))],
 .frz 9,
 .call 10 true [8064] (.c (.clo sl1Int [])) [(.t 8), (.t 9)],
 .mv 11 (.t 4),
 .bs 12 (.int .i64) false 4 [.d (.i .i64 0)] [(0, (.c (.d (.i .i64 0)))), (1, (.c (.d (.i .i64 7)))), (2, (.c (.d (.i .i64 9999)))), (3, (.c (.d (.i .i64 10000))))],
 .frz 12,
 .call 13 true [8064] (.c (.clo sl1Int [])) [(.t 11), (.t 12)],
 .mv 14 (.t 4),
 .call 15 false [8064] (.c (.clo sl3Any [])) [(.t 14)],
 .kill [8, 9, 11, 12, 14],
 .bd 16 [.d (.i .i64 0), .d (.i .i64 0), .d (.s []), .d (.s []), .nil THead, .d (.s [])] [(0, 1, (.t 10)), (1, 1, (.t 13)), (2, 4, (.t 15))],
 .al 5 TRec false,
 .st 6 (.t 5) (.t 16),
 .keep [5, 4, 3],
 .drop [73, 76, 16066]])
 (.seq (.post (.r [.an [20064, 22064] [69, 8064] [] [] (.mv 17 (.t 4)),
 .an [22064] [69] [] [] (.mv 18 (.t 4)),
 .an [22064] [69] [20064] [8064] (.call 19 true [8064] (.c (.clo sl1Below [])) [(.t 18), (.c (.d (.i .i64 4)))]),
 .an [22064] [69] [21064] [8064] (.call 20 false [8064] (.c (.clo sl1Bytes [])) [(.t 17), (.t 19)]),
 .an [20064, 21064] [8064] [22064] [69] (.ldt 21 6 true (.t 5)),
 .an [22064] [69] [] [] (.mv 2 (.t 20)),
 .an [] [] [22064] [67] (.st 6 (.t 3) (.t 21))]) [.ren 21064 66, .keep [3, 2], .drop [69, 8064, 21064, 22068]])
 (.ret))))⟩
def iPutRec_m : Fn := ⟨2, [.t 4], false,
 .seq (.r [.bx 3 TRec true (.t 1),
 .mv 4 (.c (.nil .u8)),
 .opn 4 4 false,
 .kill [1, 4],
 .drop [68]])
 (.seq (.post (.r [.mv 5 (.t 0),
 .an [] [] [7064] [] (.call 6 false [] (.c (.clo icopyBytes [])) [(.t 5)]),
 .an [7064] [] [] [] (.ld 7 6 true (.t 3)),
 .call 8 true [] (.c (.clo iputRec [])) [(.t 7)],
 .an [] [] [73, 7064] [] (.app 9 .u8 false 1 (.t 6) (.t 8)),
 .mv 4 (.t 9)]) [.ren 73 68, .keep [4], .drop [67, 73, 7064]])
 (.ret))⟩
def sDrawGetRec_m : Fn := ⟨1, [.t 2, .t 3], false,
 .seq (.r [.mv 2 (.c (.nil .u8)),
 .opn 2 2 false,
 .mv 3 (.c (.d (.i .i64 0))),
 .keep [0],
 .drop [66]])
 (.seq (.r [.mv 6 (.t 0),
 .call 7 false [] (.c (.clo sl1New [])) [(.t 6)],
 .mv 4 (.t 7),
 .keep [4]])
 (.seq (.r [.bs 8 .u8 false 0 [.d (.u 0)] [],
 .mv 9 (.t 4),
 .call 10 true [8064] (.c (.clo sl1Below [])) [(.t 9), (.c (.d (.i .i64 200)))],
 .mv 11 (.t 4),
 .call 12 true [8064] (.c (.clo sl1Below [])) [(.t 11), (.c (.d (.i .i64 9)))],
 .mv 13 (.t 4),
 .call 14 true [8064] (.c (.clo sl3Draw [])) [(.t 13)],
 .bd 15 [.d (.i .i64 0), .d (.i .i64 0), .d (.s []), .d (.s []), .nil THead, .d (.s [])] [(0, 1, (.t 10)), (1, 1, (.t 12)), (2, 4, (.t 14))],
 .kill [9, 10, 11, 12, 13, 14],
 .call 16 false [] (.c (.clo sPutRec [])) [(.t 8), (.t 15)],
 .mv 5 (.t 16),
 .ren 17064 69,
 .keep [5, 4],
 .drop [72, 17064]])
 (.seq (.seq (.r [.mv 17 (.t 4),
 .call 18 true [8064] (.c (.clo sl1Below [])) [(.t 17), (.c (.d (.i .i64 4)))],
 .kill [17]])
 (.blk 0 (.seq (.r [.bin 20 .eql .num (.t 18) (.c (.d (.i .i64 0))),
 .mv 19 (.t 20),
 .kill [20]])
 (.cond (.t 19)
 (.pre [.kill [18, 19]] (.r [.mv 21 (.t 5),
 .mv 22 (.t 4),
 .mv 23 (.t 5),
 .len 24 (.t 23),
 .call 25 true [8064] (.c (.clo sl1Below [])) [(.t 22), (.t 24)],
 .mv 26 (.t 4),
 .bs 27 (.int .i64) false 5 [.d (.i .i64 0)] [(0, (.c (.d (.i .i64 0)))), (1, (.c (.d (.i .i64 1)))), (2, (.c (.d (.i .i64 5)))), (3, (.c (.d (.i .i64 255)))), (4, (.c (.d (.i .i64 13))))],
 .frz 27,
 .call 28 true [8064] (.c (.clo sl1Int [])) [(.t 26), (.t 27)],
 .kill [22, 23, 24, 26, 27],
 .cvi 29 .u8 (.t 28),
 .ia 30 1 (.t 21) (.t 25),
 .st 1 (.t 30) (.t 29),
 .keep [5, 4],
 .drop [91]]))
 (.pre [.kill [19]] (.seq (.r [.bin 32 .eql .num (.t 18) (.c (.d (.i .i64 1))),
 .mv 31 (.t 32),
 .kill [18, 32]])
 (.cond (.t 31)
 (.pre [.kill [31]] (.r [.mv 33 (.t 5),
 .mv 34 (.t 4),
 .mv 35 (.t 5),
 .len 36 (.t 35),
 .call 37 true [8064] (.c (.clo sl1Below [])) [(.t 34), (.t 36)],
 .slc 38 1 (.t 33) none (some (.t 37)),
 .kill [5, 33, 34, 35, 36, 37],
 .mv 5 (.t 38),
 .keep [5, 4]]))
 (.pre [.kill [31]] (.skip)))))))))
 (.seq (.r [.mv 39 (.t 5),
 .mv 40 (.t 4),
 .mv 41 (.t 5),
 .len 42 (.t 41),
 .bs 43 (.int .i64) false 6 [.d (.i .i64 0)] [(0, (.c (.d (.i .i64 0)))), (1, (.c (.d (.i .i64 0)))), (2, (.c (.d (.i .i64 0)))), (3, (.c (.d (.i .i64 1)))), (4, (.t 42)), (5, (.c (.d (.i .i64 (-1)))))],
 .frz 43,
 .call 44 true [8064] (.c (.clo sl1Int [])) [(.t 40), (.t 43)],
 .kill [4, 5, 40, 41, 42, 43],
 .mv 2 (.t 39),
 .ren 69 66,
 .mv 3 (.t 44),
 .keep [3, 2],
 .drop [69, 107, 8064]])
 (.ret)))))⟩
def iGetRec_m : Fn := ⟨2, [.cell 4 6 true, .t 5, .t 6], false,
 .seq (.r [.al 4 TRec false,
 .mv 5 (.c (.d (.i .i64 0))),
 .mv 6 (.c (.d (.b false))),
 .kill [5, 6]])
 (.seq (.seq (.r [.mv 13 (.t 1),
 .bin 14 .lss .num (.t 13) (.c (.d (.i .i64 0))),
 .mv 15 (.t 14),
 .gd 15 false (some 16) (.mv 16 (.t 1)),
 .gd 15 false (some 17) (.mv 17 (.t 0)),
 .gd 15 false (some 18) (.len 18 (.t 17)),
 .gd 15 false (some 19) (.bin 19 .sub .num (.t 18) (.c (.d (.i .i64 7)))),
 .gd 15 false (some 20) (.bin 20 .gtr .num (.t 16) (.t 19)),
 .kill [13, 14, 16, 17, 18, 19],
 .pick 21 (.t 15) (.c (.d (.b true))) (.t 20),
 .keep [21, 4, 1, 0]])
 (.cond (.t 21)
 (.pre [.keep [4]] (.seq (.r [.bd 22 [.d (.i .i64 0), .d (.i .i64 0), .d (.s []), .d (.s []), .nil THead, .d (.s [])] [],
 .st 6 (.t 4) (.t 22),
 .mv 5 (.c (.d (.i .i64 0))),
 .mv 6 (.c (.d (.b false))),
 .kill [22]])
 (.ret)))
 (.pre [.kill [21]] (.skip))))
 (.seq (.r [.mv 23 (.t 0),
 .mv 24 (.t 1),
 .slc 25 1 (.t 23) (some (.t 24)) none,
 .mv 7 (.t 25),
 .kill [23, 24, 25]])
 (.seq (.post (.r [.mv 26 (.t 1),
 .bin 27 .add .num (.t 26) (.c (.d (.i .i64 2))),
 .mv 28 (.t 7),
 .ia 29 1 (.t 28) (.c (.d (.i .i64 0))),
 .ld 30 1 false (.t 29),
 .cvi 31 .i64 (.t 30),
 .bin 32 .shl .num (.t 31) (.c (.d (.i .u64 8))),
 .bin 33 .add .num (.t 27) (.t 32),
 .mv 34 (.t 7),
 .ia 35 1 (.t 34) (.c (.d (.i .i64 1))),
 .ld 36 1 false (.t 35),
 .cvi 37 .i64 (.t 36),
 .bin 38 .add .num (.t 33) (.t 37),
 .mv 8 (.t 38)]) [.keep [8, 7, 4, 1, 0]])
 (.seq (.seq (.r [.mv 39 (.t 8),
 .mv 40 (.t 0),
 .len 41 (.t 40),
 .bin 42 .gtr .num (.t 39) (.t 41),
 .mv 43 (.t 42),
 .gd 43 false (some 44) (.mv 44 (.t 8)),
 .gd 43 false (some 45) (.mv 45 (.t 1)),
 .gd 43 false (some 46) (.bin 46 .add .num (.t 45) (.c (.d (.i .i64 7)))),
 .kill [39, 40, 41, 42, 45],
 .gd 43 false (some 47) (.bin 47 .lss .num (.t 44) (.t 46)),
 .pick 48 (.t 43) (.c (.d (.b true))) (.t 47),
 .keep [48, 8, 7, 4, 1, 0]])
 (.cond (.t 48)
 (.pre [.keep [4]] (.seq (.r [.bd 49 [.d (.i .i64 0), .d (.i .i64 0), .d (.s []), .d (.s []), .nil THead, .d (.s [])] [],
 .st 6 (.t 4) (.t 49),
 .mv 5 (.c (.d (.i .i64 0))),
 .mv 6 (.c (.d (.b false))),
 .kill [49]])
 (.ret)))
 (.pre [.kill [48]] (.skip))))
 (.seq (.r [.mv 51 (.t 0),
 .mv 52 (.t 1),
 .bin 53 .add .num (.t 52) (.c (.d (.i .i64 7))),
 .mv 54 (.t 8),
 .slc 55 1 (.t 51) (some (.t 53)) (some (.t 54)),
 .call 56 false [] (.c (.clo iGetReq [])) [(.t 55)],
 .kill [51, 52, 53, 54, 55],
 .mv 50 (.t 56),
 .ext 57 (.t 50) 0,
 .ext 58 (.t 50) 1,
 .ext 59 (.t 50) 2,
 .al 9 TReq false,
 .st 4 (.t 9) (.t 57),
 .mv 10 (.t 58),
 .kill [10, 50, 56, 57, 58],
 .mv 11 (.t 59),
 .keep [11, 9, 8, 7, 4, 1, 0],
 .drop [57066]])
 (.seq (.post (.r [.an [76, 87064] [73] [] [] (.mv 60 (.t 7)),
 .an [76, 87064] [73] [] [] (.ia 61 1 (.t 60) (.c (.d (.i .i64 2)))),
 .an [76, 87064] [73] [] [] (.ld 62 1 false (.t 61)),
 .an [76, 87064] [73] [] [] (.cvi 63 .i64 (.t 62)),
 .an [76, 87064] [73] [] [] (.bin 64 .shl .num (.t 63) (.c (.d (.i .u64 16)))),
 .an [76, 87064] [73] [] [] (.mv 65 (.t 7)),
 .an [76, 87064] [73] [] [] (.ia 66 1 (.t 65) (.c (.d (.i .i64 3)))),
 .an [76, 87064] [73] [] [] (.ld 67 1 false (.t 66)),
 .an [76, 87064] [73] [] [] (.cvi 68 .i64 (.t 67)),
 .an [76, 87064] [73] [] [] (.bin 69 .shl .num (.t 68) (.c (.d (.i .u64 8)))),
 .an [76, 87064] [73] [] [] (.bin 70 .add .num (.t 64) (.t 69)),
 .an [76, 87064] [73] [] [] (.mv 71 (.t 7)),
 .an [76, 87064] [73] [] [] (.ia 72 1 (.t 71) (.c (.d (.i .i64 4)))),
 .an [76, 87064] [73] [] [] (.ld 73 1 false (.t 72)),
 .an [76, 87064] [73] [] [] (.cvi 74 .i64 (.t 73)),
 .an [76, 87064] [73] [] [] (.bin 75 .add .num (.t 70) (.t 74)),
 .an [76, 87064] [73] [] [] (.mv 76 (.t 7)),
 .an [76, 87064] [73] [] [] (.ia 77 1 (.t 76) (.c (.d (.i .i64 5)))),
 .an [76, 87064] [73] [] [] (.ld 78 1 false (.t 77)),
 .an [76, 87064] [73] [] [] (.cvi 79 .i64 (.t 78)),
 .an [76, 87064] [73] [] [] (.bin 80 .shl .num (.t 79) (.c (.d (.i .u64 8)))),
 .an [76, 87064] [73] [] [] (.mv 81 (.t 7)),
 .an [76, 87064] [73] [] [] (.ia 82 1 (.t 81) (.c (.d (.i .i64 6)))),
 .an [76, 87064] [73] [] [] (.ld 83 1 false (.t 82)),
 .an [76, 87064] [73] [] [] (.cvi 84 .i64 (.t 83)),
 .an [76, 87064] [73] [] [] (.bin 85 .add .num (.t 80) (.t 84)),
 .an [76] [] [87064] [73] (.ldt 86 4 true (.t 9)),
 .an [76] [] [] [] (.bd 87 [.d (.i .i64 0), .d (.i .i64 0), .d (.s []), .d (.s []), .nil THead, .d (.s [])] [(0, 1, (.t 75)), (1, 1, (.t 85)), (2, 4, (.t 86))]),
 .an [87064] [73] [76] [] (.al 12 TRec false),
 .an [] [] [87064] [76] (.st 6 (.t 12) (.t 87))]) [.keep [12, 11, 8, 4, 1, 0], .drop [73, 87066]])
 (.seq (.seq (.post (.r [.mv 88 (.t 11),
 .bin 89 .neq .num (.t 88) (.c (.d (.i .i64 0))),
 .mv 90 (.t 89),
 .gd 90 false (some 91) (.ld 91 6 true (.t 12)),
 .gd 90 false (some 92) (.call 92 true [] (.c (.clo iputRec [])) [(.t 91)]),
 .gd 90 false (some 93) (.b2s 93 (.t 92)),
 .gd 90 false (some 94) (.mv 94 (.t 0)),
 .gd 90 false (some 95) (.mv 95 (.t 1)),
 .gd 90 false (some 96) (.mv 96 (.t 8)),
 .gd 90 false (some 97) (.slc 97 1 (.t 94) (some (.t 95)) (some (.t 96))),
 .gd 90 false (some 98) (.b2s 98 (.t 97)),
 .gd 90 false (some 99) (.bin 99 .neq .num (.t 93) (.t 98)),
 .pick 100 (.t 90) (.c (.d (.b true))) (.t 99)]) [.keep [100, 12, 8, 4]])
 (.cond (.t 100)
 (.pre [.keep [4], .drop [76]] (.seq (.r [.bd 101 [.d (.i .i64 0), .d (.i .i64 0), .d (.s []), .d (.s []), .nil THead, .d (.s [])] [],
 .st 6 (.t 4) (.t 101),
 .mv 5 (.c (.d (.i .i64 0))),
 .mv 6 (.c (.d (.b false))),
 .kill [101]])
 (.ret)))
 (.pre [.kill [100]] (.skip))))
 (.seq (.r [.ldt 102 6 true (.t 12),
 .mv 103 (.t 8),
 .st 6 (.t 4) (.t 102),
 .mv 5 (.t 103),
 .mv 6 (.c (.d (.b true))),
 .keep [6, 5, 4],
 .drop [76, 103068]])
 (.ret)))))))))⟩
def sGetRec_m : Fn := ⟨2, [.cell 4 6 true, .t 5, .t 6], true,
 .seq (.r [.al 4 TRec true,
 .mv 5 (.c (.d (.i .i64 0))),
 .mv 6 (.c (.d (.b false))),
 .kill [5, 6]])
 (.seq (.seq (.r [.mv 13 (.t 1),
 .mv 14 (.t 0),
 .len 15 (.t 14),
 .bin 16 .sub .num (.t 15) (.c (.d (.i .i64 2))),
 .call 17 true [] (.c (.clo sl1In [])) [(.t 13), (.c (.d (.i .i64 0))), (.t 16)],
 .not 18 (.t 17),
 .keep [18, 4, 1, 0]])
 (.cond (.t 18)
 (.pre [.keep [4]] (.seq (.r [.bd 19 [.d (.i .i64 0), .d (.i .i64 0), .d (.s []), .d (.s []), .nil THead, .d (.s [])] [],
 .st 6 (.t 4) (.t 19),
 .mv 5 (.c (.d (.i .i64 0))),
 .mv 6 (.c (.d (.b false))),
 .kill [19]])
 (.ret)))
 (.pre [.kill [18]] (.skip))))
 (.seq (.post (.r [.mv 20 (.t 0),
 .mv 21 (.t 1),
 .ia 22 1 (.t 20) (.t 21),
 .ld 23 1 false (.t 22),
 .cvi 24 .i64 (.t 23),
 .bin 25 .shl .num (.t 24) (.c (.d (.i .u64 8))),
 .mv 26 (.t 0),
 .mv 27 (.t 1),
 .bin 28 .add .num (.t 27) (.c (.d (.i .i64 1))),
 .ia 29 1 (.t 26) (.t 28),
 .ld 30 1 false (.t 29),
 .cvi 31 .i64 (.t 30),
 .bin 32 .or .num (.t 25) (.t 31),
 .mv 7 (.t 32)]) [.keep [7, 4, 1, 0]])
 (.seq (.seq (.r [.mv 33 (.t 7),
 .bin 34 .lss .num (.t 33) (.c (.d (.i .i64 5))),
 .mv 35 (.t 34),
 .gd 35 false (some 36) (.mv 36 (.t 7)),
 .gd 35 false (some 37) (.mv 37 (.t 0)),
 .gd 35 false (some 38) (.len 38 (.t 37)),
 .gd 35 false (some 39) (.mv 39 (.t 1)),
 .gd 35 false (some 40) (.bin 40 .sub .num (.t 38) (.t 39)),
 .kill [33, 34, 37, 38, 39],
 .gd 35 false (some 41) (.bin 41 .sub .num (.t 40) (.c (.d (.i .i64 2)))),
 .gd 35 false (some 42) (.bin 42 .gtr .num (.t 36) (.t 41)),
 .pick 43 (.t 35) (.c (.d (.b true))) (.t 42),
 .keep [43, 7, 4, 1, 0]])
 (.cond (.t 43)
 (.pre [.keep [4]] (.seq (.r [.bd 44 [.d (.i .i64 0), .d (.i .i64 0), .d (.s []), .d (.s []), .nil THead, .d (.s [])] [],
 .st 6 (.t 4) (.t 44),
 .mv 5 (.c (.d (.i .i64 0))),
 .mv 6 (.c (.d (.b false))),
 .kill [44]])
 (.ret)))
 (.pre [.kill [43]] (.skip))))
 (.seq (.r [.mv 45 (.t 0),
 .mv 46 (.t 1),
 .bin 47 .add .num (.t 46) (.c (.d (.i .i64 2))),
 .mv 48 (.t 1),
 .bin 49 .add .num (.t 48) (.c (.d (.i .i64 2))),
 .mv 50 (.t 7),
 .bin 51 .add .num (.t 49) (.t 50),
 .kill [0, 46, 48, 49, 50],
 .slc 52 1 (.t 45) (some (.t 47)) (some (.t 51)),
 .mv 8 (.t 52),
 .keep [8, 7, 4, 1]])
 (.seq (.post (.r [.an [73] [] [] [] (.mv 53 (.t 8)),
 .an [73] [] [] [] (.ia 54 1 (.t 53) (.c (.d (.i .i64 0)))),
 .an [73] [] [] [] (.ld 55 1 false (.t 54)),
 .an [73] [] [] [] (.cvi 56 .i64 (.t 55)),
 .an [73] [] [] [] (.bin 57 .shl .num (.t 56) (.c (.d (.i .u64 16)))),
 .an [73] [] [] [] (.mv 58 (.t 8)),
 .an [73] [] [] [] (.ia 59 1 (.t 58) (.c (.d (.i .i64 1)))),
 .an [73] [] [] [] (.ld 60 1 false (.t 59)),
 .an [73] [] [] [] (.cvi 61 .i64 (.t 60)),
 .an [73] [] [] [] (.bin 62 .shl .num (.t 61) (.c (.d (.i .u64 8)))),
 .an [73] [] [] [] (.bin 63 .or .num (.t 57) (.t 62)),
 .an [73] [] [] [] (.mv 64 (.t 8)),
 .an [73] [] [] [] (.ia 65 1 (.t 64) (.c (.d (.i .i64 2)))),
 .an [73] [] [] [] (.ld 66 1 false (.t 65)),
 .an [73] [] [] [] (.cvi 67 .i64 (.t 66)),
 .an [73] [] [] [] (.bin 68 .or .num (.t 63) (.t 67)),
 .an [73] [] [] [] (.mv 69 (.t 8)),
 .an [73] [] [] [] (.ia 70 1 (.t 69) (.c (.d (.i .i64 3)))),
 .an [73] [] [] [] (.ld 71 1 false (.t 70)),
 .an [73] [] [] [] (.cvi 72 .i64 (.t 71)),
 .an [73] [] [] [] (.bin 73 .shl .num (.t 72) (.c (.d (.i .u64 8)))),
 .an [73] [] [] [] (.mv 74 (.t 8)),
 .an [73] [] [] [] (.ia 75 1 (.t 74) (.c (.d (.i .i64 4)))),
 .an [73] [] [] [] (.ld 76 1 false (.t 75)),
 .an [73] [] [] [] (.cvi 77 .i64 (.t 76)),
 .an [73] [] [] [] (.bin 78 .or .num (.t 73) (.t 77)),
 .an [73] [] [] [] (.bd 79 [.d (.i .i64 0), .d (.i .i64 0), .d (.s []), .d (.s []), .nil THead, .d (.s [])] [(0, 1, (.t 68)), (1, 1, (.t 78))]),
 .an [] [] [73] [] (.al 9 TRec true),
 .an [] [] [] [73] (.st 6 (.t 9) (.t 79))]) [.keep [9, 8, 7, 4, 1]])
 (.seq (.r [.mv 81 (.t 8),
 .slc 82 1 (.t 81) (some (.c (.d (.i .i64 5)))) none,
 .call 83 true [] (.c (.clo sGetReq [])) [(.t 82)],
 .mv 80 (.t 83),
 .ext 84 (.t 80) 0,
 .ext 85 (.t 80) 1,
 .ext 86 (.t 80) 2,
 .al 10 TReq true,
 .st 4 (.t 10) (.t 84),
 .kill [80, 81, 82, 83, 84],
 .mv 11 (.t 85),
 .mv 12 (.t 86),
 .kill [80, 81, 82, 83, 84, 85, 86]])
 (.seq (.seq (.post (.r [.mv 87 (.t 12),
 .bin 88 .neq .num (.t 87) (.c (.d (.i .i64 0))),
 .mv 89 (.t 88),
 .gd 89 false (some 90) (.mv 90 (.t 11)),
 .gd 89 false (some 91) (.mv 91 (.t 7)),
 .gd 89 false (some 92) (.bin 92 .sub .num (.t 91) (.c (.d (.i .i64 5)))),
 .gd 89 false (some 93) (.bin 93 .neq .num (.t 90) (.t 92)),
 .pick 94 (.t 89) (.c (.d (.b true))) (.t 93),
 .mv 95 (.t 94),
 .gd 95 false (some 96) (.ld 96 4 true (.t 10)),
 .gd 95 false (some 97) (.call 97 true [] (.c (.clo sPutReq [])) [(.t 96)]),
 .gd 95 false (some 98) (.b2s 98 (.t 97)),
 .gd 95 false (some 99) (.mv 99 (.t 8)),
 .gd 95 false (some 100) (.slc 100 1 (.t 99) (some (.c (.d (.i .i64 5)))) none),
 .gd 95 false (some 101) (.b2s 101 (.t 100)),
 .gd 95 false (some 102) (.bin 102 .neq .num (.t 98) (.t 101)),
 .pick 103 (.t 95) (.c (.d (.b true))) (.t 102),
 .mv 104 (.t 103),
 .gd 104 false (some 105) (.fa 105 (.t 9) 0),
 .gd 104 false (some 106) (.ld 106 1 false (.t 105)),
 .gd 104 false (some 107) (.call 107 true [] (.c (.clo sl1In [])) [(.t 106), (.c (.d (.i .i64 0))), (.c (.d (.i .i64 9999999)))]),
 .gd 104 false (some 108) (.not 108 (.t 107)),
 .pick 109 (.t 104) (.c (.d (.b true))) (.t 108),
 .mv 110 (.t 109),
 .gd 110 false (some 111) (.fa 111 (.t 9) 1),
 .gd 110 false (some 112) (.ld 112 1 false (.t 111)),
 .gd 110 false (some 113) (.call 113 true [] (.c (.clo sl1In [])) [(.t 112), (.c (.d (.i .i64 0))), (.c (.d (.i .i64 9999)))]),
 .gd 110 false (some 114) (.not 114 (.t 113)),
 .pick 115 (.t 110) (.c (.d (.b true))) (.t 114)]) [.keep [115, 10, 9, 7, 4, 1]])
 (.cond (.t 115)
 (.pre [.keep [4], .drop [73, 74]] (.seq (.r [.bd 116 [.d (.i .i64 0), .d (.i .i64 0), .d (.s []), .d (.s []), .nil THead, .d (.s [])] [],
 .st 6 (.t 4) (.t 116),
 .mv 5 (.c (.d (.i .i64 0))),
 .mv 6 (.c (.d (.b false))),
 .kill [116]])
 (.ret)))
 (.pre [.kill [115]] (.skip))))
 (.seq (.r [.ld 117 4 true (.t 10),
 .fa 118 (.t 9) 2,
 .st 4 (.t 118) (.t 117),
 .kill [10, 117, 118],
 .drop [74]])
 (.seq (.r [.ld 119 6 true (.t 9),
 .mv 120 (.t 1),
 .bin 121 .add .num (.t 120) (.c (.d (.i .i64 2))),
 .mv 122 (.t 7),
 .bin 123 .add .num (.t 121) (.t 122),
 .kill [1, 7, 9, 120, 121, 122],
 .st 6 (.t 4) (.t 119),
 .mv 5 (.t 123),
 .mv 6 (.c (.d (.b true))),
 .keep [6, 5, 4],
 .drop [73]])
 (.ret))))))))))⟩
def sPutRec_m : Fn := ⟨2, [.t 4], false,
 .seq (.r [.bx 3 TRec true (.t 1),
 .mv 4 (.c (.nil .u8)),
 .opn 4 4 false,
 .kill [1, 4],
 .drop [68]])
 (.seq (.r [.bs 8 .u8 false 0 [.d (.u 0)] [],
 .mv 9 (.t 0),
 .app 10 .u8 false 1 (.t 8) (.t 9),
 .mv 5 (.t 10),
 .ren 74 69,
 .keep [5, 3],
 .drop [72, 74]])
 (.seq (.r [.fa 11 (.t 3) 2,
 .ld 12 4 true (.t 11),
 .call 13 true [] (.c (.clo sPutReq [])) [(.t 12)],
 .mv 6 (.t 13),
 .kill [11, 12, 13]])
 (.seq (.seq (.r [.fa 14 (.t 3) 0,
 .ld 15 1 false (.t 14),
 .call 16 true [] (.c (.clo sl1In [])) [(.t 15), (.c (.d (.i .i64 0))), (.c (.d (.i .i64 9999999)))],
 .not 17 (.t 16),
 .mv 18 (.t 17),
 .gd 18 false (some 19) (.fa 19 (.t 3) 1),
 .gd 18 false (some 20) (.ld 20 1 false (.t 19)),
 .kill [14, 15, 16, 17, 19],
 .gd 18 false (some 21) (.call 21 true [] (.c (.clo sl1In [])) [(.t 20), (.c (.d (.i .i64 0))), (.c (.d (.i .i64 9999)))]),
 .gd 18 false (some 22) (.not 22 (.t 21)),
 .pick 23 (.t 18) (.c (.d (.b true))) (.t 22),
 .mv 24 (.t 23),
 .kill [18, 20, 21, 22, 23],
 .gd 24 false (some 25) (.mv 25 (.t 6)),
 .gd 24 false (some 26) (.len 26 (.t 25)),
 .gd 24 false (some 27) (.bin 27 .eql .num (.t 26) (.c (.d (.i .i64 0)))),
 .pick 28 (.t 24) (.c (.d (.b true))) (.t 27),
 .keep [28, 6, 5, 3]])
 (.cond (.t 28)
 (.pre [.keep [5], .drop [67]] (.seq (.r [.mv 29 (.t 5),
 .mv 4 (.t 29),
 .ren 69 68,
 .keep [4],
 .drop [69]])
 (.ret)))
 (.pre [.kill [28]] (.skip))))
 (.seq (.r [.mv 30 (.t 6),
 .len 31 (.t 30),
 .bin 32 .add .num (.t 31) (.c (.d (.i .i64 5))),
 .mv 7 (.t 32),
 .kill [30, 31, 32]])
 (.seq (.r [.mv 33 (.t 5),
 .mv 34 (.t 7),
 .bin 35 .shr .num (.t 34) (.c (.d (.i .u64 8))),
 .cvi 36 .u8 (.t 35),
 .mv 37 (.t 7),
 .cvi 38 .u8 (.t 37),
 .kill [5, 7, 34, 35, 37],
 .fa 39 (.t 3) 0,
 .ld 40 1 false (.t 39),
 .bin 41 .shr .num (.t 40) (.c (.d (.i .u64 16))),
 .cvi 42 .u8 (.t 41),
 .fa 43 (.t 3) 0,
 .ld 44 1 false (.t 43),
 .bin 45 .shr .num (.t 44) (.c (.d (.i .u64 8))),
 .kill [39, 40, 41, 43, 44],
 .cvi 46 .u8 (.t 45),
 .fa 47 (.t 3) 0,
 .ld 48 1 false (.t 47),
 .cvi 49 .u8 (.t 48),
 .fa 50 (.t 3) 1,
 .ld 51 1 false (.t 50),
 .bin 52 .shr .num (.t 51) (.c (.d (.i .u64 8))),
 .kill [45, 47, 48, 50, 51],
 .cvi 53 .u8 (.t 52),
 .fa 54 (.t 3) 1,
 .ld 55 1 false (.t 54),
 .cvi 56 .u8 (.t 55),
 .bs 57 .u8 false 7 [.d (.u 0)] [(0, (.t 36)), (1, (.t 38)), (2, (.t 42)), (3, (.t 46)), (4, (.t 49)), (5, (.t 53)), (6, (.t 56))],
 .kill [3, 36, 38, 42, 46, 49, 52, 53, 54, 55, 56],
 .app 58 .u8 false 1 (.t 33) (.t 57),
 .mv 5 (.t 58),
 .ren 122 69,
 .keep [6, 5],
 .drop [67, 121, 122]])
 (.seq (.r [.mv 59 (.t 5),
 .mv 60 (.t 6),
 .app 61 .u8 false 1 (.t 59) (.t 60),
 .mv 4 (.t 61),
 .ren 125 68,
 .keep [4],
 .drop [69, 125]])
 (.ret)))))))⟩
def iSameReq_m : Fn := ⟨2, [.t 4], false,
 .seq (.r [.bx 2 TReq true (.t 0),
 .bx 3 TReq true (.t 1),
 .mv 4 (.c (.d (.b false))),
 .keep [3, 2]])
 (.seq (.r [.fa 5 (.t 2) 0,
 .ld 6 1 false (.t 5),
 .fa 7 (.t 3) 0,
 .ld 8 1 false (.t 7),
 .bin 9 .eql .num (.t 6) (.t 8),
 .mv 10 (.t 9),
 .kill [5, 6, 7, 8, 9],
 .gd 10 true (some 11) (.fa 11 (.t 2) 1),
 .gd 10 true (some 12) (.ld 12 1 false (.t 11)),
 .gd 10 true (some 13) (.fa 13 (.t 3) 1),
 .gd 10 true (some 14) (.ld 14 1 false (.t 13)),
 .gd 10 true (some 15) (.bin 15 .eql .num (.t 12) (.t 14)),
 .pick 16 (.t 10) (.t 15) (.c (.d (.b false))),
 .kill [10, 11, 12, 13, 14, 15],
 .mv 17 (.t 16),
 .gd 17 true (some 18) (.fa 18 (.t 2) 2),
 .gd 17 true (some 19) (.ld 19 1 false (.t 18)),
 .gd 17 true (some 20) (.fa 20 (.t 3) 2),
 .gd 17 true (some 21) (.ld 21 1 false (.t 20)),
 .gd 17 true (some 22) (.call 22 true [] (.c (.clo isameHeads [])) [(.t 19), (.t 21)]),
 .kill [16, 18, 19, 20, 21],
 .pick 23 (.t 17) (.t 22) (.c (.d (.b false))),
 .mv 24 (.t 23),
 .gd 24 true (some 25) (.fa 25 (.t 2) 3),
 .gd 24 true (some 26) (.ld 26 1 false (.t 25)),
 .kill [2, 17, 22, 23, 25],
 .gd 24 true (some 27) (.fa 27 (.t 3) 3),
 .gd 24 true (some 28) (.ld 28 1 false (.t 27)),
 .gd 24 true (some 29) (.bin 29 .eql .num (.t 26) (.t 28)),
 .pick 30 (.t 24) (.t 29) (.c (.d (.b false))),
 .kill [3, 24, 26, 27, 28, 29],
 .mv 4 (.t 30),
 .keep [4],
 .drop [66, 67]])
 (.ret))⟩
/-- live: [0, 3, 4]; objects: [] -/
def sl1New_l0 : C :=
 .seq (.seq (.r [.mv 8 (.t 4),
 .mv 9 (.t 0),
 .len 10 (.t 9),
 .bin 11 .lss .num (.t 8) (.t 10),
 .mv 12 (.t 11),
 .gd 12 true (some 13) (.mv 13 (.t 4)),
 .gd 12 true (some 14) (.bin 14 .lss .num (.t 13) (.c (.d (.i .i64 4000)))),
 .kill [8, 9, 10, 11, 13],
 .pick 15 (.t 12) (.t 14) (.c (.d (.b false))),
 .keep [15, 4, 3, 0]])
 (.cond (.t 15)
 (.pre [.kill [15]] (.skip))
 (.pre [.kill [4, 15]] (.ex 0))))
 (.seq (.blk 1 (.r [.mv 18 (.t 3),
 .bin 19 .mul .num (.t 18) (.c (.d (.i .i64 137))),
 .mv 20 (.t 0),
 .mv 21 (.t 4),
 .ia 22 1 (.t 20) (.t 21),
 .ld 23 1 false (.t 22),
 .kill [3, 18, 20, 21, 22],
 .cvi 24 .i64 (.t 23),
 .bin 25 .add .num (.t 19) (.t 24),
 .bin 26 .add .num (.t 25) (.c (.d (.i .i64 11))),
 .bin 27 .and .num (.t 26) (.c (.d (.i .i64 1073741823))),
 .kill [19, 23, 24, 25, 26],
 .mv 3 (.t 27),
 .keep [4, 3, 0]]))
 (.r [.mv 16 (.t 4),
 .bin 17 .add .num (.t 16) (.c (.d (.i .i64 1))),
 .mv 4 (.t 17),
 .kill [16, 17]]))
def sl1New_m : Fn := ⟨1, [.t 2], false,
 .seq (.r [.mv 2 (.c (.d (.x (.pointer none)))),
 .kill [2],
 .drop [66]])
 (.seq (.r [.mv 5 (.t 0),
 .len 6 (.t 5),
 .bin 7 .add .num (.c (.d (.i .i64 774774))) (.t 6),
 .mv 3 (.t 7),
 .keep [3, 0]])
 (.seq (.seq (.r [.mv 4 (.c (.d (.i .i64 0)))])
 (.blk 0 (.pre [.keep [4, 3, 0]] (.loop sl1New_l0))))
 (.seq (.r [.mv 28 (.t 0),
 .mv 29 (.t 3),
 .bd 30 [.nil .u8, .d (.i .i64 0), .d (.i .i64 0)] [(0, 1, (.t 28)), (2, 1, (.t 29))],
 .bx 31 Tl1Cur true (.t 30),
 .kill [0, 3, 28, 29, 30],
 .mv 2 (.t 31),
 .ren 95 66,
 .keep [2],
 .drop [95]])
 (.ret))))⟩
def sl1Int_m : Fn := ⟨2, [.t 4], false,
 .seq (.r [.mv 4 (.c (.d (.i .i64 0))),
 .kill [4]])
 (.seq (.r [.mv 5 (.t 1),
 .mv 6 (.t 0),
 .mv 7 (.t 1),
 .len 8 (.t 7),
 .call 9 true [0] (.c (.clo sl1Below [])) [(.t 6), (.t 8)],
 .kill [0, 1, 6, 7, 8],
 .ia 10 1 (.t 5) (.t 9),
 .ld 11 1 false (.t 10),
 .mv 4 (.t 11),
 .keep [4]])
 (.ret))⟩
/-- live: [0, 2, 3]; objects: [0, 66, 67] -/
def sl3Any_l0 : C :=
 .seq (.seq (.post (.r [.an [49064] [0] [] [] (.fa 44 (.t 3) 2),
 .an [49064] [0] [] [] (.ld 45 1 false (.t 44)),
 .an [49064] [0] [] [] (.len 46 (.t 45)),
 .mv 47 (.t 0),
 .an [] [] [49064] [0] (.call 48 true [0] (.c (.clo sl1Below [])) [(.t 47), (.c (.d (.i .i64 2)))]),
 .bin 49 .add .num (.c (.d (.i .i64 8))) (.t 48),
 .bin 50 .lss .num (.t 46) (.t 49)]) [.keep [50, 3, 2, 0]])
 (.cond (.t 50)
 (.pre [.kill [50]] (.skip))
 (.pre [.kill [0, 50]] (.ex 1))))
 (.blk 2 (.post (.r [.an [122, 56064] [0] [] [] (.fa 51 (.t 3) 2),
 .an [122, 56064] [0] [116] [67] (.ldm 52 (.t 51)),
 .an [116] [67] [] [] (.mv 53 (.t 0)),
 .an [116] [67] [] [] (.bsz 54 (.int .i64) 3 [.d (.i .i64 0)] [(0, (.c (.d (.i .i64 0)))), (1, (.c (.d (.i .i64 9)))), (2, (.c (.d (.i .i64 60))))]),
 .an [116] [67] [56064] [0] (.call 55 true [0] (.c (.clo sl1Int [])) [(.t 53), (.t 54)]),
 .an [116] [67] [] [] (.slc 56 0 (.c (.d (.s [115, 105, 120, 116, 121, 45, 98, 121, 116, 101, 115, 45, 111, 102, 45, 97, 45, 118, 97, 108, 117, 101, 45, 116, 104, 97, 116, 45, 105, 115, 45, 97, 115, 45, 108, 111, 110, 103, 45, 97, 115, 45, 97, 45, 118, 97, 108, 117, 101, 45, 109, 97, 121, 45, 98, 101, 45, 110, 111, 119]))) none (some (.t 55))),
 .an [116] [67] [] [] (.bd 57 [.d (.s []), .d (.s [])] [(0, 1, (.c (.d (.s [120])))), (1, 1, (.t 56))]),
 .an [116] [67] [122] [] (.bs 58 THead false 1 [.d (.s []), .d (.s [])] [(0, (.t 57))]),
 .an [] [] [116, 123] [67] (.app 59 THead false 32 (.t 52) (.t 58)),
 .fa 60 (.t 3) 2,
 .an [] [] [123] [67] (.st 1 (.t 60) (.t 59))]) [.keep [3, 2, 0], .drop [116, 118, 122, 123]]))
def sl3Any_m : Fn := ⟨1, [.cell 2 4 true], false,
 .seq (.r [.al 2 TReq false])
 (.seq (.r [.mv 4 (.t 0),
 .call 5 false [0] (.c (.clo sl3Draw [])) [(.t 4)],
 .al 3 TReq false,
 .st 4 (.t 3) (.t 5),
 .kill [4, 5],
 .drop [6066]])
 (.seq (.seq (.r [.mv 6 (.t 0),
 .call 7 true [0] (.c (.clo sl1Below [])) [(.t 6), (.c (.d (.i .i64 12)))],
 .kill [6]])
 (.blk 0 (.seq (.r [.bin 9 .eql .num (.t 7) (.c (.d (.i .i64 0))),
 .mv 8 (.t 9),
 .kill [9]])
 (.cond (.t 8)
 (.pre [.kill [7, 8]] (.r [.mv 10 (.t 0),
 .bs 11 .str false 4 [.d (.s [])] [(0, (.c (.d (.s [])))), (1, (.c (.d (.s [103, 101, 116])))), (2, (.c (.d (.s [84, 69, 78, 76, 69, 84, 84, 69, 82, 83])))), (3, (.c (.d (.s [65, 32, 66]))))],
 .frz 11,
 .call 12 true [0] (.c (.clo sl1Str [])) [(.t 10), (.t 11)],
 .fa 13 (.t 3) 0,
 .st 1 (.t 13) (.t 12),
 .keep [3, 2],
 .drop [75]]))
 (.pre [.kill [8]] (.seq (.r [.bin 15 .eql .num (.t 7) (.c (.d (.i .i64 1))),
 .mv 14 (.t 15),
 .kill [15]])
 (.cond (.t 14)
 (.pre [.kill [7, 14]] (.r [.mv 16 (.t 0),
 .bs 17 .str false 3 [.d (.s [])] [(0, (.c (.d (.s [])))), (1, (.c (.d (.s [97, 32, 98])))), (2, (.c (.d (.s [127]))))],
 .frz 17,
 .call 18 true [0] (.c (.clo sl1Str [])) [(.t 16), (.t 17)],
 .fa 19 (.t 3) 1,
 .st 1 (.t 19) (.t 18),
 .keep [3, 2],
 .drop [81]]))
 (.pre [.kill [14]] (.seq (.r [.bin 21 .eql .num (.t 7) (.c (.d (.i .i64 2))),
 .mv 20 (.t 21),
 .kill [21]])
 (.cond (.t 20)
 (.pre [.kill [7, 20]] (.post (.r [.an [95, 27064, 30064] [0] [] [] (.fa 22 (.t 3) 2),
 .an [95, 27064, 30064] [0] [87] [67] (.ldm 23 (.t 22)),
 .an [87] [67] [] [] (.mv 24 (.t 0)),
 .an [87] [67] [] [] (.bsz 25 .str 4 [.d (.s [])] [(0, (.c (.d (.s [99, 111, 110, 116, 101, 110, 116, 45, 108, 101, 110, 103, 116, 104])))), (1, (.c (.d (.s [88])))), (2, (.c (.d (.s [])))), (3, (.c (.d (.s [97]))))]),
 .an [87] [67] [27064] [0] (.call 26 true [0] (.c (.clo sl1Str [])) [(.t 24), (.t 25)]),
 .an [87, 27064] [0, 67] [] [] (.mv 27 (.t 0)),
 .an [87, 27064] [0, 67] [] [] (.bsz 28 .str 3 [.d (.s [])] [(0, (.c (.d (.s [32, 97])))), (1, (.c (.d (.s [97])))), (2, (.c (.d (.s [13, 10]))))]),
 .an [87] [67] [30064] [0] (.call 29 true [0] (.c (.clo sl1Str [])) [(.t 27), (.t 28)]),
 .an [87] [67] [] [] (.bd 30 [.d (.s []), .d (.s [])] [(0, 1, (.t 26)), (1, 1, (.t 29))]),
 .an [87] [67] [95] [] (.bs 31 THead false 1 [.d (.s []), .d (.s [])] [(0, (.t 30))]),
 .an [] [] [87, 96] [67] (.app 32 THead false 32 (.t 23) (.t 31)),
 .fa 33 (.t 3) 2,
 .an [] [] [96] [67] (.st 1 (.t 33) (.t 32))]) [.keep [3, 2], .drop [87, 89, 92, 95, 96]]))
 (.pre [.kill [20]] (.seq (.r [.bin 35 .eql .num (.t 7) (.c (.d (.i .i64 3))),
 .mv 34 (.t 35),
 .kill [35]])
 (.cond (.t 34)
 (.pre [.kill [7, 34]] (.r [.mv 36 (.t 0),
 .call 37 true [0] (.c (.clo sl1Below [])) [(.t 36), (.c (.d (.i .i64 2)))],
 .bin 38 .add .num (.c (.d (.i .i64 200))) (.t 37),
 .mk 39 .u8 1 (.t 38),
 .b2s 40 (.t 39),
 .kill [0, 36, 37, 38, 39],
 .fa 41 (.t 3) 3,
 .st 1 (.t 41) (.t 40),
 .keep [3, 2],
 .drop [103]]))
 (.pre [.kill [34]] (.seq (.r [.bin 43 .eql .num (.t 7) (.c (.d (.i .i64 4))),
 .mv 42 (.t 43),
 .kill [7, 43]])
 (.cond (.t 42)
 (.pre [.kill [42]] (.blk 1 (.pre [.keep [3, 2, 0]] (.loop sl3Any_l0))))
 (.pre [.kill [0, 42]] (.skip))))))))))))))))))
 (.seq (.r [.ldt 61 4 true (.t 3),
 .st 4 (.t 2) (.t 61),
 .keep [2],
 .drop [67, 62066]])
 (.ret))))⟩
/-- live: [0, 1, 5, 6]; objects: [0, 69] -/
def sl1Bytes_l0 : C :=
 .seq (.seq (.r [.mv 8 (.t 6),
 .mv 9 (.t 1),
 .bin 10 .lss .num (.t 8) (.t 9),
 .kill [8, 9]])
 (.cond (.t 10)
 (.pre [.kill [10]] (.skip))
 (.pre [.keep [5]] (.ex 0))))
 (.seq (.blk 1 (.r [.mv 13 (.t 5),
 .mv 14 (.t 0),
 .call 15 true [0] (.c (.clo sl1Byte [])) [(.t 14)],
 .cvi 16 .u8 (.t 15),
 .bs 17 .u8 false 1 [.d (.u 0)] [(0, (.t 16))],
 .app 18 .u8 false 1 (.t 13) (.t 17),
 .kill [5, 13, 14, 15, 16, 17],
 .mv 5 (.t 18),
 .ren 82 69,
 .keep [6, 5, 1, 0],
 .drop [81, 82]]))
 (.r [.mv 11 (.t 6),
 .bin 12 .add .num (.t 11) (.c (.d (.i .i64 1))),
 .mv 6 (.t 12),
 .kill [11, 12]]))
def sl1Bytes_m : Fn := ⟨2, [.t 4], false,
 .seq (.r [.mv 4 (.c (.nil .u8)),
 .opn 4 4 false,
 .kill [4],
 .drop [68]])
 (.seq (.r [.bs 7 .u8 false 0 [.d (.u 0)] [],
 .mv 5 (.t 7),
 .ren 71 69,
 .kill [7],
 .drop [71]])
 (.seq (.seq (.r [.mv 6 (.c (.d (.i .i64 0)))])
 (.blk 0 (.pre [.keep [6, 5, 1, 0]] (.loop sl1Bytes_l0))))
 (.seq (.r [.mv 19 (.t 5),
 .mv 4 (.t 19),
 .ren 69 68,
 .keep [4],
 .drop [69]])
 (.ret))))⟩
def sl1Below_m : Fn := ⟨2, [.t 4], false,
 .seq (.r [.mv 4 (.c (.d (.i .i64 0))),
 .kill [4]])
 (.seq (.seq (.r [.mv 8 (.t 1),
 .bin 9 .leq .num (.t 8) (.c (.d (.i .i64 0))),
 .kill [8]])
 (.cond (.t 9)
 (.pre [.keep []] (.seq (.r [.mv 4 (.c (.d (.i .i64 0)))])
 (.ret)))
 (.pre [.kill [9]] (.skip))))
 (.seq (.seq (.r [.mv 10 (.t 1),
 .bin 11 .leq .num (.t 10) (.c (.d (.i .i64 256))),
 .kill [10]])
 (.cond (.t 11)
 (.pre [.kill [11]] (.seq (.r [.mv 12 (.t 0),
 .call 13 true [0] (.c (.clo sl1Byte [])) [(.t 12)],
 .mv 14 (.t 1),
 .bin 15 .rem .num (.t 13) (.t 14),
 .kill [0, 1, 12, 13, 14],
 .mv 4 (.t 15),
 .keep [4]])
 (.ret)))
 (.pre [.kill [11]] (.skip))))
 (.seq (.r [.mv 16 (.t 0),
 .call 17 true [0] (.c (.clo sl1Byte [])) [(.t 16)],
 .mv 5 (.t 17),
 .kill [16, 17]])
 (.seq (.r [.mv 18 (.t 0),
 .call 19 true [0] (.c (.clo sl1Byte [])) [(.t 18)],
 .mv 6 (.t 19),
 .kill [18, 19]])
 (.seq (.r [.mv 20 (.t 0),
 .call 21 true [0] (.c (.clo sl1Byte [])) [(.t 20)],
 .mv 7 (.t 21),
 .kill [0, 20, 21]])
 (.seq (.r [.mv 22 (.t 5),
 .bin 23 .mul .num (.t 22) (.c (.d (.i .i64 65536))),
 .mv 24 (.t 6),
 .bin 25 .mul .num (.t 24) (.c (.d (.i .i64 256))),
 .bin 26 .add .num (.t 23) (.t 25),
 .kill [5, 6, 22, 23, 24, 25],
 .mv 27 (.t 7),
 .bin 28 .add .num (.t 26) (.t 27),
 .mv 29 (.t 1),
 .bin 30 .rem .num (.t 28) (.t 29),
 .kill [1, 7, 26, 27, 28, 29],
 .mv 4 (.t 30),
 .keep [4]])
 (.ret)))))))⟩
def icopyBytes_m : Fn := ⟨1, [.t 2], false,
 .seq (.r [.mv 2 (.c (.nil .u8)),
 .opn 2 2 false,
 .kill [2],
 .drop [66]])
 (.seq (.r [.mv 3 (.t 0),
 .app 4 .u8 false 1 (.c (.nil .u8)) (.t 3),
 .mv 2 (.t 4),
 .ren 68 66,
 .keep [2],
 .drop [68]])
 (.ret))⟩
def iputRec_m : Fn := ⟨1, [.t 2], false,
 .seq (.r [.bx 1 TRec true (.t 0),
 .mv 2 (.c (.nil .u8)),
 .opn 2 2 false,
 .keep [1],
 .drop [66]])
 (.seq (.r [.fa 6 (.t 1) 2,
 .ld 7 4 true (.t 6),
 .call 8 true [] (.c (.clo iPutReq [])) [(.t 7)],
 .mv 3 (.t 8),
 .keep [3, 1]])
 (.seq (.seq (.r [.fa 9 (.t 1) 0,
 .ld 10 1 false (.t 9),
 .call 11 true [] (.c (.clo iin [])) [(.t 10), (.c (.d (.i .i64 0))), (.c (.d (.i .i64 9999999)))],
 .not 12 (.t 11),
 .mv 13 (.t 12),
 .gd 13 false (some 14) (.fa 14 (.t 1) 1),
 .gd 13 false (some 15) (.ld 15 1 false (.t 14)),
 .kill [9, 10, 11, 12, 14],
 .gd 13 false (some 16) (.call 16 true [] (.c (.clo iin [])) [(.t 15), (.c (.d (.i .i64 0))), (.c (.d (.i .i64 9999)))]),
 .gd 13 false (some 17) (.not 17 (.t 16)),
 .pick 18 (.t 13) (.c (.d (.b true))) (.t 17),
 .mv 19 (.t 18),
 .kill [13, 15, 16, 17, 18],
 .gd 19 false (some 20) (.mv 20 (.t 3)),
 .gd 19 false (some 21) (.len 21 (.t 20)),
 .gd 19 false (some 22) (.bin 22 .eql .num (.t 21) (.c (.d (.i .i64 0)))),
 .pick 23 (.t 19) (.c (.d (.b true))) (.t 22),
 .keep [23, 3, 1]])
 (.cond (.t 23)
 (.pre [.keep [], .drop [65]] (.seq (.r [.mv 2 (.c (.nil .u8)),
 .opn 2 2 false])
 (.ret)))
 (.pre [.kill [23]] (.skip))))
 (.seq (.r [.mv 24 (.t 3),
 .len 25 (.t 24),
 .bin 26 .add .num (.t 25) (.c (.d (.i .i64 5))),
 .mv 4 (.t 26),
 .kill [24, 25, 26]])
 (.seq (.r [.mv 27 (.t 4),
 .bin 28 .shr .num (.t 27) (.c (.d (.i .u64 8))),
 .cvi 29 .u8 (.t 28),
 .mv 30 (.t 4),
 .cvi 31 .u8 (.t 30),
 .fa 32 (.t 1) 0,
 .ld 33 1 false (.t 32),
 .kill [4, 27, 28, 30, 32],
 .bin 34 .shr .num (.t 33) (.c (.d (.i .u64 16))),
 .cvi 35 .u8 (.t 34),
 .fa 36 (.t 1) 0,
 .ld 37 1 false (.t 36),
 .bin 38 .shr .num (.t 37) (.c (.d (.i .u64 8))),
 .cvi 39 .u8 (.t 38),
 .kill [33, 34, 36, 37, 38],
 .fa 40 (.t 1) 0,
 .ld 41 1 false (.t 40),
 .cvi 42 .u8 (.t 41),
 .fa 43 (.t 1) 1,
 .ld 44 1 false (.t 43),
 .bin 45 .shr .num (.t 44) (.c (.d (.i .u64 8))),
 .cvi 46 .u8 (.t 45),
 .kill [40, 41, 43, 44, 45],
 .fa 47 (.t 1) 1,
 .ld 48 1 false (.t 47),
 .cvi 49 .u8 (.t 48),
 .bs 50 .u8 false 7 [.d (.u 0)] [(0, (.t 29)), (1, (.t 31)), (2, (.t 35)), (3, (.t 39)), (4, (.t 42)), (5, (.t 46)), (6, (.t 49))],
 .kill [1, 29, 31, 35, 39, 42, 46, 47, 48, 49],
 .mv 5 (.t 50),
 .keep [5, 3],
 .drop [65]])
 (.seq (.r [.mv 51 (.t 5),
 .mv 52 (.t 3),
 .app 53 .u8 false 1 (.t 51) (.t 52),
 .mv 2 (.t 53),
 .ren 117 66,
 .keep [2],
 .drop [114, 117]])
 (.ret))))))⟩
def sl3Draw_m : Fn := ⟨1, [.cell 2 4 true], false,
 .seq (.r [.al 2 TReq false])
 (.seq (.r [.mv 3 (.t 0),
 .bs 4 .str false 5 [.d (.s [])] [(0, (.c (.d (.s [71, 69, 84])))), (1, (.c (.d (.s [80, 85, 84])))), (2, (.c (.d (.s [77, 75, 67, 79, 76])))), (3, (.c (.d (.s [68, 69, 76, 69, 84, 69])))), (4, (.c (.d (.s [67, 79, 80, 89]))))],
 .frz 4,
 .call 5 true [0] (.c (.clo sl1Str [])) [(.t 3), (.t 4)],
 .mv 6 (.t 0),
 .bs 7 .str false 5 [.d (.s [])] [(0, (.c (.d (.s [47])))), (1, (.c (.d (.s [47, 97])))), (2, (.c (.d (.s [47, 97, 47, 98])))), (3, (.c (.d (.s [47, 97, 37, 50, 48, 98])))), (4, (.c (.d (.s [120]))))],
 .frz 7,
 .call 8 true [0] (.c (.clo sl1Str [])) [(.t 6), (.t 7)],
 .mv 9 (.t 0),
 .call 10 false [0] (.c (.clo sl3DrawHeads [])) [(.t 9)],
 .kill [3, 4, 6, 7, 9],
 .mv 11 (.t 0),
 .call 12 true [0] (.c (.clo sl3Body [])) [(.t 11)],
 .bd 13 [.d (.s []), .d (.s []), .nil THead, .d (.s [])] [(0, 1, (.t 5)), (1, 1, (.t 8)), (2, 1, (.t 10)), (3, 1, (.t 12))],
 .kill [0, 5, 8, 10, 11, 12],
 .st 4 (.t 2) (.t 13),
 .keep [2],
 .drop [68, 71, 11064]])
 (.ret))⟩
def iGetReq_m : Fn := ⟨1, [.cell 2 4 true, .t 3, .t 4], false,
 .seq (.r [.al 2 TReq false,
 .mv 3 (.c (.d (.i .i64 0))),
 .mv 4 (.c (.d (.i .i64 0))),
 .kill [3, 4]])
 (.seq (.r [.mv 9 (.t 0),
 .call 10 true [] (.c (.clo iHeadEnd [])) [(.t 9)],
 .mv 5 (.t 10),
 .kill [9, 10]])
 (.seq (.seq (.r [.mv 11 (.t 5),
 .bin 12 .lss .num (.t 11) (.c (.d (.i .i64 0))),
 .kill [11]])
 (.cond (.t 12)
 (.pre [.kill [5, 12]] (.seq (.seq (.r [.mv 13 (.t 0),
 .len 14 (.t 13),
 .bin 15 .gtr .num (.t 14) (.c (.d (.i .i64 400))),
 .keep [15, 2]])
 (.cond (.t 15)
 (.pre [.kill [15]] (.seq (.r [.bd 16 [.d (.s []), .d (.s []), .nil THead, .d (.s [])] [],
 .st 4 (.t 2) (.t 16),
 .mv 3 (.c (.d (.i .i64 0))),
 .mv 4 (.c (.d (.i .i64 431))),
 .kill [16]])
 (.ret)))
 (.pre [.kill [15]] (.skip))))
 (.seq (.r [.bd 17 [.d (.s []), .d (.s []), .nil THead, .d (.s [])] [],
 .st 4 (.t 2) (.t 17),
 .mv 3 (.c (.d (.i .i64 0))),
 .mv 4 (.c (.d (.i .i64 1))),
 .kill [17]])
 (.ret))))
 (.pre [.kill [12]] (.skip))))
 (.seq (.r [.mv 19 (.t 0),
 .mv 20 (.t 5),
 .bin 21 .sub .num (.t 20) (.c (.d (.i .i64 4))),
 .slc 22 1 (.t 19) none (some (.t 21)),
 .b2s 23 (.t 22),
 .call 24 false [] (.c (.clo ireadHead [])) [(.t 23)],
 .kill [19, 20, 21, 22, 23],
 .mv 18 (.t 24),
 .ext 25 (.t 18) 0,
 .ext 26 (.t 18) 1,
 .al 6 TreqHead false,
 .st 9 (.t 6) (.t 25),
 .mv 7 (.t 26),
 .keep [7, 6, 5, 2, 0],
 .drop [25066]])
 (.seq (.seq (.r [.mv 27 (.t 7),
 .bin 28 .neq .num (.t 27) (.c (.d (.i .i64 0))),
 .kill [27]])
 (.cond (.t 28)
 (.pre [.keep [7, 2], .drop [70]] (.seq (.r [.bd 29 [.d (.s []), .d (.s []), .nil THead, .d (.s [])] [],
 .mv 30 (.t 7),
 .st 4 (.t 2) (.t 29),
 .mv 3 (.c (.d (.i .i64 0))),
 .mv 4 (.t 30),
 .kill [7, 29, 30]])
 (.ret)))
 (.pre [.kill [28]] (.skip))))
 (.seq (.r [.mv 31 (.t 5),
 .fa 32 (.t 6) 6,
 .ld 33 1 false (.t 32),
 .bin 34 .add .num (.t 31) (.t 33),
 .mv 8 (.t 34),
 .kill [31, 32, 33, 34]])
 (.seq (.blk 0 (.seq (.r [.fa 43 (.t 6) 5,
 .ld 44 1 false (.t 43),
 .mv 42 (.t 44),
 .kill [43, 44]])
 (.cond (.t 42)
 (.pre [.kill [7, 8, 42]] (.r [.mv 46 (.t 0),
 .mv 47 (.t 5),
 .call 48 true [] (.c (.clo iGetChunks [])) [(.t 46), (.t 47)],
 .mv 45 (.t 48),
 .kill [0, 5, 46, 47, 48],
 .ext 49 (.t 45) 0,
 .ext 50 (.t 45) 1,
 .ext 51 (.t 45) 2,
 .fa 52 (.t 6) 0,
 .fa 53 (.t 52) 3,
 .st 1 (.t 53) (.t 49),
 .mv 8 (.t 50),
 .kill [45, 49, 50, 52, 53],
 .mv 7 (.t 51),
 .keep [8, 7, 6, 2]]))
 (.pre [.kill [42]] (.seq (.r [.mv 55 (.t 8),
 .mv 56 (.t 0),
 .len 57 (.t 56),
 .bin 58 .gtr .num (.t 55) (.t 57),
 .mv 54 (.t 58),
 .kill [55, 56, 57, 58]])
 (.cond (.t 54)
 (.pre [.keep [8, 6, 2]] (.r [.mv 7 (.c (.d (.i .i64 1)))]))
 (.pre [.kill [54]] (.r [.mv 35 (.t 0),
 .mv 36 (.t 5),
 .mv 37 (.t 8),
 .slc 38 1 (.t 35) (some (.t 36)) (some (.t 37)),
 .kill [0, 5, 35, 36, 37],
 .b2s 39 (.t 38),
 .fa 40 (.t 6) 0,
 .fa 41 (.t 40) 3,
 .st 1 (.t 41) (.t 39),
 .keep [8, 7, 6, 2]]))))))))
 (.seq (.seq (.r [.mv 59 (.t 7),
 .bin 60 .neq .num (.t 59) (.c (.d (.i .i64 0))),
 .kill [59]])
 (.cond (.t 60)
 (.pre [.keep [7, 2], .drop [70]] (.seq (.r [.bd 61 [.d (.s []), .d (.s []), .nil THead, .d (.s [])] [],
 .mv 62 (.t 7),
 .st 4 (.t 2) (.t 61),
 .mv 3 (.c (.d (.i .i64 0))),
 .mv 4 (.t 62),
 .kill [7, 61, 62]])
 (.ret)))
 (.pre [.kill [7, 60]] (.skip))))
 (.seq (.r [.fa 63 (.t 6) 0,
 .ldt 64 4 true (.t 63),
 .mv 65 (.t 8),
 .st 4 (.t 2) (.t 64),
 .mv 3 (.t 65),
 .kill [6, 8, 63, 64, 65],
 .mv 4 (.c (.d (.i .i64 0))),
 .keep [4, 3, 2],
 .drop [70, 65066]])
 (.ret)))))))))⟩
def sl1In_m : Fn := ⟨3, [.t 6], false,
 .seq (.r [.mv 6 (.c (.d (.b false))),
 .kill [6]])
 (.seq (.r [.mv 7 (.t 0),
 .mv 8 (.t 1),
 .bin 9 .geq .num (.t 7) (.t 8),
 .mv 10 (.t 9),
 .gd 10 true (some 11) (.mv 11 (.t 0)),
 .kill [0, 1, 7, 8, 9],
 .gd 10 true (some 12) (.mv 12 (.t 2)),
 .gd 10 true (some 13) (.bin 13 .leq .num (.t 11) (.t 12)),
 .pick 14 (.t 10) (.t 13) (.c (.d (.b false))),
 .kill [2, 10, 11, 12, 13],
 .mv 6 (.t 14),
 .keep [6]])
 (.ret))⟩
def sGetReq_m : Fn := ⟨1, [.cell 2 4 true, .t 3, .t 4], true,
 .seq (.r [.al 2 TReq true,
 .mv 3 (.c (.d (.i .i64 0))),
 .mv 4 (.c (.d (.i .i64 0))),
 .kill [3, 4]])
 (.seq (.r [.mv 11 (.t 0),
 .call 12 true [] (.c (.clo sHeadEnd [])) [(.t 11)],
 .mv 5 (.t 12),
 .kill [11, 12]])
 (.seq (.seq (.r [.mv 13 (.t 5),
 .bin 14 .lss .num (.t 13) (.c (.d (.i .i64 0))),
 .kill [13]])
 (.cond (.t 14)
 (.pre [.kill [5, 14]] (.seq (.seq (.r [.mv 15 (.t 0),
 .len 16 (.t 15),
 .bin 17 .leq .num (.t 16) (.c (.d (.i .i64 400))),
 .keep [17, 2]])
 (.cond (.t 17)
 (.pre [.kill [17]] (.seq (.r [.bd 18 [.d (.s []), .d (.s []), .nil THead, .d (.s [])] [],
 .st 4 (.t 2) (.t 18),
 .mv 3 (.c (.d (.i .i64 0))),
 .mv 4 (.c (.d (.i .i64 1))),
 .kill [18]])
 (.ret)))
 (.pre [.kill [17]] (.skip))))
 (.seq (.r [.bd 19 [.d (.s []), .d (.s []), .nil THead, .d (.s [])] [],
 .st 4 (.t 2) (.t 19),
 .mv 3 (.c (.d (.i .i64 0))),
 .mv 4 (.c (.d (.i .i64 431))),
 .kill [19]])
 (.ret))))
 (.pre [.kill [14]] (.skip))))
 (.seq (.r [.bd 20 [.d (.s []), .d (.s []), .nil THead, .d (.s []), .d (.i .i64 0), .d (.i .i64 0), .nil (.int .i64)] [],
 .bx 21 Tl3Frame false (.t 20),
 .mv 6 (.t 21),
 .kill [20, 21]])
 (.seq (.r [.mv 22 (.t 6),
 .mv 23 (.t 0),
 .mv 24 (.t 5),
 .bin 25 .sub .num (.t 24) (.c (.d (.i .i64 4))),
 .slc 26 1 (.t 23) none (some (.t 25)),
 .b2s 27 (.t 26),
 .call 28 true [85] (.c (.clo sl3Read [])) [(.t 22), (.t 27)],
 .kill [22, 23, 24, 25, 26, 27],
 .mv 7 (.t 28),
 .keep [7, 6, 5, 2, 0]])
 (.seq (.seq (.r [.mv 29 (.t 7),
 .bin 30 .neq .num (.t 29) (.c (.d (.i .i64 0))),
 .kill [29]])
 (.cond (.t 30)
 (.pre [.keep [7, 2], .drop [85]] (.seq (.r [.bd 31 [.d (.s []), .d (.s []), .nil THead, .d (.s [])] [],
 .mv 32 (.t 7),
 .st 4 (.t 2) (.t 31),
 .mv 3 (.c (.d (.i .i64 0))),
 .mv 4 (.t 32),
 .kill [7, 31, 32]])
 (.ret)))
 (.pre [.kill [7, 30]] (.skip))))
 (.seq (.seq (.r [.mv 33 (.t 6),
 .nchk 34 (.t 33),
 .fa 35 (.t 34) 4,
 .ld 36 1 false (.t 35),
 .bin 37 .lss .num (.t 36) (.c (.d (.i .i64 0))),
 .kill [33, 34, 35, 36]])
 (.cond (.t 37)
 (.pre [.kill [37]] (.seq (.r [.mv 39 (.t 0),
 .mv 40 (.t 5),
 .call 41 true [] (.c (.clo sGetChunks [])) [(.t 39), (.t 40)],
 .mv 38 (.t 41),
 .kill [0, 5, 39, 40, 41],
 .ext 42 (.t 38) 0,
 .ext 43 (.t 38) 1,
 .ext 44 (.t 38) 2,
 .mv 8 (.t 42),
 .mv 9 (.t 43),
 .mv 10 (.t 44),
 .keep [10, 9, 8, 6, 2]])
 (.seq (.seq (.r [.mv 45 (.t 10),
 .bin 46 .neq .num (.t 45) (.c (.d (.i .i64 0))),
 .kill [45]])
 (.cond (.t 46)
 (.pre [.keep [10, 2], .drop [85]] (.seq (.r [.bd 47 [.d (.s []), .d (.s []), .nil THead, .d (.s [])] [],
 .mv 48 (.t 10),
 .st 4 (.t 2) (.t 47),
 .mv 3 (.c (.d (.i .i64 0))),
 .mv 4 (.t 48),
 .kill [10, 47, 48]])
 (.ret)))
 (.pre [.kill [10, 46]] (.skip))))
 (.seq (.r [.mv 49 (.t 6),
 .mv 50 (.t 8),
 .nchk 51 (.t 49),
 .fa 52 (.t 51) 0,
 .fa 53 (.t 52) 3,
 .st 1 (.t 53) (.t 50),
 .keep [9, 6, 2]])
 (.seq (.pre [.frz 6] (.r [.mv 54 (.t 6),
 .nchk 55 (.t 54),
 .fa 56 (.t 55) 0,
 .ld 57 4 true (.t 56),
 .mv 58 (.t 9),
 .kill [6, 9, 54, 55, 56],
 .st 4 (.t 2) (.t 57),
 .mv 3 (.t 58),
 .mv 4 (.c (.d (.i .i64 0))),
 .keep [4, 3, 2],
 .drop [85]]))
 (.ret))))))
 (.pre [.kill [37]] (.skip))))
 (.seq (.seq (.r [.mv 59 (.t 6),
 .nchk 60 (.t 59),
 .fa 61 (.t 60) 4,
 .ld 62 1 false (.t 61),
 .mv 63 (.t 0),
 .len 64 (.t 63),
 .mv 65 (.t 5),
 .bin 66 .sub .num (.t 64) (.t 65),
 .kill [59, 60, 61, 63, 64, 65],
 .bin 67 .gtr .num (.t 62) (.t 66),
 .keep [67, 6, 5, 2, 0]])
 (.cond (.t 67)
 (.pre [.keep [2], .drop [85]] (.seq (.r [.bd 68 [.d (.s []), .d (.s []), .nil THead, .d (.s [])] [],
 .st 4 (.t 2) (.t 68),
 .mv 3 (.c (.d (.i .i64 0))),
 .mv 4 (.c (.d (.i .i64 1))),
 .kill [68]])
 (.ret)))
 (.pre [.kill [67]] (.skip))))
 (.seq (.r [.mv 69 (.t 6),
 .mv 70 (.t 0),
 .mv 71 (.t 5),
 .mv 72 (.t 5),
 .mv 73 (.t 6),
 .nchk 74 (.t 73),
 .fa 75 (.t 74) 4,
 .ld 76 1 false (.t 75),
 .bin 77 .add .num (.t 72) (.t 76),
 .kill [0, 72, 73, 74, 75, 76],
 .slc 78 1 (.t 70) (some (.t 71)) (some (.t 77)),
 .b2s 79 (.t 78),
 .nchk 80 (.t 69),
 .kill [69, 70, 71, 77, 78],
 .fa 81 (.t 80) 0,
 .fa 82 (.t 81) 3,
 .st 1 (.t 82) (.t 79),
 .keep [6, 5, 2]])
 (.seq (.pre [.frz 6] (.post (.r [.mv 83 (.t 6),
 .nchk 84 (.t 83),
 .fa 85 (.t 84) 0,
 .ld 86 4 true (.t 85),
 .an [] [66] [] [] (.mv 87 (.t 5)),
 .an [] [66] [] [] (.mv 88 (.t 6)),
 .an [] [66] [] [] (.nchk 89 (.t 88)),
 .an [] [66] [] [] (.fa 90 (.t 89) 4),
 .an [] [66] [] [] (.ld 91 1 false (.t 90)),
 .an [] [66] [] [] (.bin 92 .add .num (.t 87) (.t 91)),
 .an [] [] [] [66] (.st 4 (.t 2) (.t 86)),
 .mv 3 (.t 92),
 .mv 4 (.c (.d (.i .i64 0)))]) [.keep [4, 3, 2], .drop [85]]))
 (.ret))))))))))⟩
def sPutReq_m : Fn := ⟨1, [.t 2], false,
 .seq (.r [.bx 1 TReq true (.t 0),
 .mv 2 (.c (.nil .u8)),
 .opn 2 2 false,
 .keep [1],
 .drop [66]])
 (.seq (.seq (.r [.fa 3 (.t 1) 3,
 .ld 4 1 false (.t 3),
 .bin 5 .eql .num (.t 4) (.c (.d (.s []))),
 .kill [3, 4]])
 (.cond (.t 5)
 (.pre [.kill [5]] (.seq (.r [.ld 6 4 true (.t 1),
 .call 7 false [] (.c (.clo sl3Put [])) [(.t 6), (.c (.d (.s []))), (.c (.d (.s [])))],
 .mv 2 (.t 7),
 .ren 8064 66,
 .keep [2],
 .drop [65, 8064]])
 (.ret)))
 (.pre [.kill [5]] (.skip))))
 (.seq (.post (.r [.ld 8 4 true (.t 1),
 .fa 9 (.t 1) 3,
 .ld 10 1 false (.t 9),
 .lns 11 (.t 10),
 .call 12 true [] (.c (.clo sNumText [])) [(.t 11)],
 .bin 13 .add .num (.c (.d (.s [99, 111, 110, 116, 101, 110, 116, 45, 108, 101, 110, 103, 116, 104, 58, 32]))) (.t 12),
 .bin 14 .add .num (.t 13) (.c (.d (.s [13, 10]))),
 .fa 15 (.t 1) 3,
 .ld 16 1 false (.t 15),
 .an [] [] [18064] [] (.call 17 false [] (.c (.clo sl3Put [])) [(.t 8), (.t 14), (.t 16)]),
 .mv 2 (.t 17)]) [.ren 18064 66, .keep [2], .drop [65, 18064]])
 (.ret)))⟩
/-- live: [0, 1, 12, 13]; objects: [] -/
def isameHeads_l0 : C :=
 .seq (.r [.bin 14 .lss .num (.t 13) (.t 12)])
 (.seq (.cond (.t 14)
 (.pre [.kill [14]] (.skip))
 (.pre [.keep []] (.ex 0)))
 (.seq (.blk 1 (.seq (.r [.mv 15 (.t 13),
 .mv 5 (.t 15),
 .kill [15]])
 (.seq (.post (.r [.mv 16 (.t 0),
 .mv 17 (.t 5),
 .ia 18 2 (.t 16) (.t 17),
 .ld 19 2 true (.t 18),
 .mv 20 (.t 1),
 .mv 21 (.t 5),
 .ia 22 2 (.t 20) (.t 21),
 .ld 23 2 true (.t 22),
 .bin 24 .neq (.st [2, 2]) (.t 19) (.t 23)]) [.keep [24, 13, 12, 1, 0]])
 (.cond (.t 24)
 (.pre [.keep []] (.seq (.r [.mv 4 (.c (.d (.b false)))])
 (.ret)))
 (.pre [.kill [24]] (.skip))))))
 (.r [.bin 25 .add .num (.t 13) (.c (.d (.i .i64 1))),
 .mv 13 (.t 25),
 .kill [25]])))
def isameHeads_m : Fn := ⟨2, [.t 4], false,
 .seq (.r [.mv 4 (.c (.d (.b false))),
 .kill [4]])
 (.seq (.seq (.r [.mv 6 (.t 0),
 .len 7 (.t 6),
 .mv 8 (.t 1),
 .len 9 (.t 8),
 .bin 10 .neq .num (.t 7) (.t 9),
 .keep [10, 1, 0]])
 (.cond (.t 10)
 (.pre [.keep []] (.seq (.r [.mv 4 (.c (.d (.b false)))])
 (.ret)))
 (.pre [.kill [10]] (.skip))))
 (.seq (.seq (.r [.mv 11 (.t 0),
 .len 12 (.t 11),
 .mv 13 (.c (.d (.i .i64 0))),
 .kill [11]])
 (.blk 0 (.pre [.keep [13, 12, 1, 0]] (.loop isameHeads_l0))))
 (.seq (.r [.mv 4 (.c (.d (.b true)))])
 (.ret))))⟩
def sl1Str_m : Fn := ⟨2, [.t 4], false,
 .seq (.r [.mv 4 (.c (.d (.s []))),
 .kill [4]])
 (.seq (.r [.mv 5 (.t 1),
 .mv 6 (.t 0),
 .mv 7 (.t 1),
 .len 8 (.t 7),
 .call 9 true [0] (.c (.clo sl1Below [])) [(.t 6), (.t 8)],
 .kill [0, 1, 6, 7, 8],
 .ia 10 1 (.t 5) (.t 9),
 .ld 11 1 false (.t 10),
 .mv 4 (.t 11),
 .keep [4]])
 (.ret))⟩
def sl1Byte_m : Fn := ⟨1, [.t 2], false,
 .seq (.r [.mv 2 (.c (.d (.i .i64 0))),
 .kill [2]])
 (.seq (.r [.mv 4 (.t 0),
 .mv 5 (.t 0),
 .nchk 6 (.t 5),
 .fa 7 (.t 6) 2,
 .ld 8 1 false (.t 7),
 .bin 9 .mul .num (.t 8) (.c (.d (.i .i64 6364136223846793005))),
 .bin 10 .add .num (.t 9) (.c (.d (.i .i64 1442695040888963407))),
 .kill [5, 6, 7, 8, 9],
 .nchk 11 (.t 4),
 .fa 12 (.t 11) 2,
 .st 1 (.t 12) (.t 10),
 .keep [0]])
 (.seq (.post (.r [.mv 13 (.t 0),
 .nchk 14 (.t 13),
 .fa 15 (.t 14) 2,
 .ld 16 1 false (.t 15),
 .bin 17 .shr .num (.t 16) (.c (.d (.i .u64 33))),
 .mv 18 (.t 0),
 .nchk 19 (.t 18),
 .fa 20 (.t 19) 2,
 .ld 21 1 false (.t 20),
 .bin 22 .shr .num (.t 21) (.c (.d (.i .u64 47))),
 .bin 23 .xor .num (.t 17) (.t 22),
 .bin 24 .and .num (.t 23) (.c (.d (.i .i64 255))),
 .mv 3 (.t 24)]) [.keep [3, 0]])
 (.seq (.seq (.post (.r [.mv 25 (.t 0),
 .nchk 26 (.t 25),
 .fa 27 (.t 26) 1,
 .ld 28 1 false (.t 27),
 .mv 29 (.t 0),
 .nchk 30 (.t 29),
 .fa 31 (.t 30) 0,
 .ld 32 1 false (.t 31),
 .len 33 (.t 32),
 .bin 34 .lss .num (.t 28) (.t 33)]) [.keep [34, 3, 0]])
 (.cond (.t 34)
 (.pre [.kill [34]] (.seq (.post (.r [.mv 35 (.t 3),
 .mv 36 (.t 0),
 .nchk 37 (.t 36),
 .fa 38 (.t 37) 0,
 .ld 39 1 false (.t 38),
 .mv 40 (.t 0),
 .nchk 41 (.t 40),
 .fa 42 (.t 41) 1,
 .ld 43 1 false (.t 42),
 .ia 44 1 (.t 39) (.t 43),
 .ld 45 1 false (.t 44),
 .cvi 46 .i64 (.t 45),
 .bin 47 .add .num (.t 35) (.t 46),
 .bin 48 .and .num (.t 47) (.c (.d (.i .i64 255))),
 .mv 3 (.t 48)]) [.keep [3, 0]])
 (.r [.mv 49 (.t 0),
 .mv 50 (.t 0),
 .nchk 51 (.t 50),
 .fa 52 (.t 51) 1,
 .ld 53 1 false (.t 52),
 .bin 54 .add .num (.t 53) (.c (.d (.i .i64 1))),
 .kill [0, 50, 51, 52, 53],
 .nchk 55 (.t 49),
 .fa 56 (.t 55) 1,
 .st 1 (.t 56) (.t 54),
 .keep [3]])))
 (.pre [.keep [3]] (.skip))))
 (.seq (.r [.mv 57 (.t 3),
 .mv 2 (.t 57),
 .keep [2]])
 (.ret)))))⟩
def iin_m : Fn := ⟨3, [.t 6], false,
 .seq (.r [.mv 6 (.c (.d (.b false))),
 .kill [6]])
 (.seq (.r [.mv 7 (.t 0),
 .mv 8 (.t 1),
 .bin 9 .geq .num (.t 7) (.t 8),
 .mv 10 (.t 9),
 .gd 10 true (some 11) (.mv 11 (.t 0)),
 .kill [0, 1, 7, 8, 9],
 .gd 10 true (some 12) (.mv 12 (.t 2)),
 .gd 10 true (some 13) (.bin 13 .leq .num (.t 11) (.t 12)),
 .pick 14 (.t 10) (.t 13) (.c (.d (.b false))),
 .kill [2, 10, 11, 12, 13],
 .mv 6 (.t 14),
 .keep [6]])
 (.ret))⟩
def iPutReq_m : Fn := ⟨1, [.t 2], false,
 .seq (.r [.bx 1 TReq true (.t 0),
 .mv 2 (.c (.nil .u8)),
 .opn 2 2 false,
 .keep [1],
 .drop [66]])
 (.seq (.r [.mv 3 (.c (.d (.s [])))])
 (.seq (.seq (.r [.fa 4 (.t 1) 3,
 .ld 5 1 false (.t 4),
 .bin 6 .neq .num (.t 5) (.c (.d (.s []))),
 .kill [4, 5]])
 (.cond (.t 6)
 (.pre [.keep [1]] (.r [.fa 7 (.t 1) 3,
 .ld 8 1 false (.t 7),
 .call 9 true [] (.c (.clo ilengthText [])) [(.t 8)],
 .mv 3 (.t 9),
 .keep [3, 1]]))
 (.pre [.kill [6]] (.skip))))
 (.seq (.r [.ld 10 4 true (.t 1),
 .mv 11 (.t 3),
 .fa 12 (.t 1) 3,
 .ld 13 1 false (.t 12),
 .s2b 14 (.t 13),
 .call 15 false [] (.c (.clo iputReq [])) [(.t 10), (.t 11), (.t 14)],
 .kill [1, 3, 10, 11, 12, 13, 14],
 .mv 2 (.t 15),
 .ren 16064 66,
 .keep [2],
 .drop [65, 78, 16064]])
 (.ret))))⟩
/-- live: [0, 3, 4]; objects: [0, 67] -/
def sl3DrawHeads_l0 : C :=
 .seq (.seq (.r [.mv 8 (.t 4),
 .bin 9 .gtr .num (.t 8) (.c (.d (.i .i64 0))),
 .kill [8]])
 (.cond (.t 9)
 (.pre [.kill [9]] (.skip))
 (.pre [.keep [3]] (.ex 0))))
 (.seq (.blk 1 (.r [.mv 12 (.t 3),
 .mv 13 (.t 0),
 .bs 14 .str false 5 [.d (.s [])] [(0, (.c (.d (.s [105, 102])))), (1, (.c (.d (.s [100, 101, 112, 116, 104])))), (2, (.c (.d (.s [120, 45, 97])))), (3, (.c (.d (.s [104, 111, 115, 116])))), (4, (.c (.d (.s [105, 102, 45, 109, 97, 116, 99, 104]))))],
 .frz 14,
 .call 15 true [0] (.c (.clo sl1Str [])) [(.t 13), (.t 14)],
 .mv 16 (.t 0),
 .bs 17 .str false 6 [.d (.s [])] [(0, (.c (.d (.s [])))), (1, (.c (.d (.s [48])))), (2, (.c (.d (.s [105, 110, 102, 105, 110, 105, 116, 121])))), (3, (.c (.d (.s [97, 32, 98])))), (4, (.c (.d (.s [34, 118, 49, 34])))), (5, (.c (.d (.s [40, 60, 49, 62, 41]))))],
 .frz 17,
 .call 18 true [0] (.c (.clo sl1Str [])) [(.t 16), (.t 17)],
 .kill [3, 13, 14, 16, 17],
 .bd 19 [.d (.s []), .d (.s [])] [(0, 1, (.t 15)), (1, 1, (.t 18))],
 .bs 20 THead false 1 [.d (.s []), .d (.s [])] [(0, (.t 19))],
 .app 21 THead false 32 (.t 12) (.t 20),
 .kill [12, 15, 18, 19, 20],
 .mv 3 (.t 21),
 .ren 85 67,
 .keep [4, 3, 0],
 .drop [78, 81, 84, 85]]))
 (.r [.mv 10 (.t 4),
 .bin 11 .sub .num (.t 10) (.c (.d (.i .i64 1))),
 .mv 4 (.t 11),
 .kill [10, 11]]))
def sl3DrawHeads_m : Fn := ⟨1, [.t 2], false,
 .seq (.r [.mv 2 (.c (.nil THead)),
 .opn 2 2 false,
 .kill [2],
 .drop [66]])
 (.seq (.r [.bs 5 THead false 0 [.d (.s []), .d (.s [])] [],
 .mv 3 (.t 5),
 .ren 69 67,
 .kill [5],
 .drop [69]])
 (.seq (.seq (.r [.mv 6 (.t 0),
 .call 7 true [0] (.c (.clo sl1Below [])) [(.t 6), (.c (.d (.i .i64 3)))],
 .mv 4 (.t 7),
 .kill [6, 7]])
 (.blk 0 (.pre [.keep [4, 3, 0]] (.loop sl3DrawHeads_l0))))
 (.seq (.r [.mv 22 (.t 3),
 .mv 2 (.t 22),
 .ren 67 66,
 .keep [2],
 .drop [67]])
 (.ret))))⟩
def sl3Body_m : Fn := ⟨1, [.t 2], false,
 .seq (.r [.mv 2 (.c (.d (.s []))),
 .kill [2]])
 (.seq (.r [.mv 3 (.t 0),
 .bs 4 .str false 7 [.d (.s [])] [(0, (.c (.d (.s [])))), (1, (.c (.d (.s [])))), (2, (.c (.d (.s [97])))), (3, (.c (.d (.s [104, 101, 108, 108, 111])))), (4, (.c (.d (.s [60, 97, 47, 62])))), (5, (.c (.d (.s [13, 10, 13, 10])))), (6, (.c (.d (.s [120, 0, 255]))))],
 .frz 4,
 .call 5 true [0] (.c (.clo sl1Str [])) [(.t 3), (.t 4)],
 .mv 2 (.t 5),
 .keep [2],
 .drop [68]])
 (.ret))⟩
def iHeadEnd_m : Fn := ⟨1, [.t 2], false,
 .seq (.r [.mv 2 (.c (.d (.i .i64 0))),
 .kill [2]])
 (.seq (.r [.mv 4 (.t 0),
 .mv 5 (.t 0),
 .len 6 (.t 5),
 .mm 7 false (.t 6) (.c (.d (.i .i64 400))),
 .slc 8 1 (.t 4) none (some (.t 7)),
 .kill [0, 4, 5, 6, 7],
 .b2s 9 (.t 8),
 .call 10 true [] (.c (.clo x_strings_Index [])) [(.t 9), (.c (.d (.s [13, 10, 13, 10])))],
 .mv 3 (.t 10),
 .keep [3]])
 (.seq (.seq (.r [.mv 11 (.t 3),
 .bin 12 .lss .num (.t 11) (.c (.d (.i .i64 0))),
 .kill [11]])
 (.cond (.t 12)
 (.pre [.keep []] (.seq (.r [.mv 2 (.c (.d (.i .i64 (-1))))])
 (.ret)))
 (.pre [.kill [12]] (.skip))))
 (.seq (.r [.mv 13 (.t 3),
 .bin 14 .add .num (.t 13) (.c (.d (.i .i64 4))),
 .mv 2 (.t 14),
 .keep [2]])
 (.ret))))⟩
/-- live: [2, 6, 46, 47, 48]; objects: [66, 70] -/
def ireadHead_l0 : C :=
 .seq (.r [.bin 49 .lss .num (.t 48) (.t 47)])
 (.seq (.cond (.t 49)
 (.pre [.kill [49]] (.skip))
 (.pre [.keep [6, 2]] (.ex 0)))
 (.seq (.blk 1 (.seq (.r [.ia 50 1 (.t 46) (.t 48),
 .ld 51 1 false (.t 50),
 .mv 8 (.t 51),
 .kill [50, 51]])
 (.r [.mv 52 (.t 8),
 .call 53 true [70] (.c (.clo ireqHead_line [])) [(.t 6), (.t 52)],
 .kill [8, 52, 53]])))
 (.r [.bin 54 .add .num (.t 48) (.c (.d (.i .i64 1))),
 .mv 48 (.t 54),
 .kill [54]])))
def ireadHead_m : Fn := ⟨1, [.cell 2 9 true, .t 3], false,
 .seq (.r [.al 2 TreqHead false,
 .mv 3 (.c (.d (.i .i64 0))),
 .kill [3]])
 (.seq (.r [.mv 9 (.t 0),
 .call 10 true [] (.c (.clo x_strings_Split [])) [(.t 9), (.c (.d (.s [13, 10])))],
 .mv 4 (.t 10),
 .keep [4, 2]])
 (.seq (.r [.mv 11 (.t 4),
 .ia 12 1 (.t 11) (.c (.d (.i .i64 0))),
 .ld 13 1 false (.t 12),
 .call 14 true [] (.c (.clo x_strings_Split [])) [(.t 13), (.c (.d (.s [32])))],
 .mv 5 (.t 14),
 .keep [5, 4, 2]])
 (.seq (.r [.al 6 TreqHead false])
 (.seq (.seq (.post (.r [.mv 15 (.t 5),
 .len 16 (.t 15),
 .bin 17 .neq .num (.t 16) (.c (.d (.i .i64 3))),
 .mv 18 (.t 17),
 .gd 18 false (some 19) (.mv 19 (.t 5)),
 .gd 18 false (some 20) (.ia 20 1 (.t 19) (.c (.d (.i .i64 2)))),
 .gd 18 false (some 21) (.ld 21 1 false (.t 20)),
 .gd 18 false (some 22) (.bin 22 .neq .num (.t 21) (.c (.d (.s [72, 84, 84, 80, 47, 49, 46, 49])))),
 .pick 23 (.t 18) (.c (.d (.b true))) (.t 22),
 .mv 24 (.t 23),
 .gd 24 false (some 25) (.mv 25 (.t 5)),
 .gd 24 false (some 26) (.ia 26 1 (.t 25) (.c (.d (.i .i64 0)))),
 .gd 24 false (some 27) (.ld 27 1 false (.t 26)),
 .gd 24 false (some 28) (.mv 28 (.t 5)),
 .gd 24 false (some 29) (.ia 29 1 (.t 28) (.c (.d (.i .i64 1)))),
 .gd 24 false (some 30) (.ld 30 1 false (.t 29)),
 .gd 24 false (some 31) (.call 31 true [] (.c (.clo ilineOk [])) [(.t 27), (.t 30)]),
 .gd 24 false (some 32) (.not 32 (.t 31)),
 .pick 33 (.t 24) (.c (.d (.b true))) (.t 32)]) [.keep [33, 6, 5, 4, 2]])
 (.cond (.t 33)
 (.pre [.keep [6, 2]] (.seq (.r [.ldt 34 9 true (.t 6),
 .st 9 (.t 2) (.t 34),
 .mv 3 (.c (.d (.i .i64 400))),
 .kill [6, 34],
 .drop [70, 35066]])
 (.ret)))
 (.pre [.kill [33]] (.skip))))
 (.seq (.post (.r [.mv 35 (.t 5),
 .ia 36 1 (.t 35) (.c (.d (.i .i64 0))),
 .ld 37 1 false (.t 36),
 .mv 38 (.t 5),
 .ia 39 1 (.t 38) (.c (.d (.i .i64 1))),
 .ld 40 1 false (.t 39),
 .fa 41 (.t 6) 0,
 .fa 42 (.t 41) 0,
 .an [] [] [] [70] (.st 1 (.t 42) (.t 37)),
 .fa 43 (.t 6) 0,
 .fa 44 (.t 43) 1,
 .an [] [] [] [70] (.st 1 (.t 44) (.t 40))]) [.keep [6, 4, 2]])
 (.seq (.seq (.r [.mv 45 (.t 4),
 .slc 46 1 (.t 45) (some (.c (.d (.i .i64 1)))) none,
 .len 47 (.t 46),
 .mv 48 (.c (.d (.i .i64 0))),
 .kill [4, 45]])
 (.blk 0 (.pre [.keep [48, 47, 46, 6, 2]] (.loop ireadHead_l0))))
 (.seq (.blk 2 (.seq (.r [.fa 56 (.t 6) 8,
 .ld 57 1 false (.t 56),
 .mv 55 (.t 57),
 .kill [56, 57]])
 (.cond (.t 55)
 (.pre [.kill [55]] (.seq (.r [.ldt 58 9 true (.t 6),
 .st 9 (.t 2) (.t 58),
 .mv 3 (.c (.d (.i .i64 400))),
 .kill [6, 58],
 .drop [70, 59066]])
 (.ret)))
 (.pre [.kill [55]] (.seq (.r [.fa 60 (.t 6) 0,
 .fa 61 (.t 60) 2,
 .ld 62 1 false (.t 61),
 .len 63 (.t 62),
 .bin 64 .gtr .num (.t 63) (.c (.d (.i .i64 8))),
 .mv 59 (.t 64),
 .keep [59, 6, 2]])
 (.cond (.t 59)
 (.pre [.kill [59]] (.seq (.r [.ldt 65 9 true (.t 6),
 .st 9 (.t 2) (.t 65),
 .mv 3 (.c (.d (.i .i64 431))),
 .kill [6, 65],
 .drop [70, 66066]])
 (.ret)))
 (.pre [.kill [59]] (.seq (.r [.fa 67 (.t 6) 5,
 .ld 68 1 false (.t 67),
 .mv 69 (.t 68),
 .gd 69 true (some 70) (.fa 70 (.t 6) 4),
 .gd 69 true (some 71) (.ld 71 1 false (.t 70)),
 .gd 69 true (some 72) (.call 72 true [] (.c (.clo iLower [])) [(.t 71)]),
 .gd 69 true (some 73) (.bin 73 .neq .num (.t 72) (.c (.d (.s [99, 104, 117, 110, 107, 101, 100])))),
 .kill [67, 68, 70, 71, 72],
 .pick 74 (.t 69) (.t 73) (.c (.d (.b false))),
 .mv 66 (.t 74),
 .keep [66, 6, 2]])
 (.cond (.t 66)
 (.pre [.kill [66]] (.seq (.r [.ldt 75 9 true (.t 6),
 .st 9 (.t 2) (.t 75),
 .mv 3 (.c (.d (.i .i64 501))),
 .kill [6, 75],
 .drop [70, 76066]])
 (.ret)))
 (.pre [.kill [66]] (.seq (.r [.fa 77 (.t 6) 6,
 .ld 78 1 false (.t 77),
 .bin 79 .gtr .num (.t 78) (.c (.d (.i .i64 200))),
 .mv 76 (.t 79),
 .kill [77, 78, 79]])
 (.cond (.t 76)
 (.pre [.kill [76]] (.seq (.r [.ldt 80 9 true (.t 6),
 .st 9 (.t 2) (.t 80),
 .mv 3 (.c (.d (.i .i64 413))),
 .kill [6, 80],
 .drop [70, 81066]])
 (.ret)))
 (.pre [.kill [76]] (.skip))))))))))))))
 (.seq (.r [.ldt 81 9 true (.t 6),
 .st 9 (.t 2) (.t 81),
 .mv 3 (.c (.d (.i .i64 0))),
 .kill [6, 81],
 .drop [70, 82066]])
 (.ret)))))))))⟩
/-- live: [0, 7, 8]; objects: [84] -/
def iGetChunks_l0 : C :=
 .blk 1 (.seq (.r [.mv 21 (.t 7),
 .call 22 true [84] (.c (.clo ichunks_size [])) [(.t 21)],
 .mv 9 (.t 22),
 .kill [21, 22]])
 (.seq (.blk 2 (.seq (.r [.mv 43 (.t 7),
 .nchk 44 (.t 43),
 .fa 45 (.t 44) 1,
 .ld 46 1 false (.t 45),
 .bin 47 .neq .num (.t 46) (.c (.d (.i .i64 0))),
 .mv 42 (.t 47),
 .kill [43, 44, 45, 46, 47]])
 (.cond (.t 42)
 (.pre [.kill [42]] (.skip))
 (.pre [.kill [42]] (.seq (.r [.mv 49 (.t 8),
 .lns 50 (.t 49),
 .mv 51 (.t 9),
 .bin 52 .add .num (.t 50) (.t 51),
 .bin 53 .gtr .num (.t 52) (.c (.d (.i .i64 200))),
 .mv 48 (.t 53),
 .kill [49, 50, 51, 52, 53]])
 (.cond (.t 48)
 (.pre [.kill [48]] (.r [.mv 54 (.t 7),
 .nchk 55 (.t 54),
 .fa 56 (.t 55) 1,
 .st 1 (.t 56) (.c (.d (.i .i64 413))),
 .kill [54, 55, 56]]))
 (.pre [.kill [48]] (.seq (.r [.mv 58 (.t 9),
 .mv 59 (.t 7),
 .nchk 60 (.t 59),
 .fa 61 (.t 60) 0,
 .ld 62 1 false (.t 61),
 .lns 63 (.t 62),
 .bin 64 .gtr .num (.t 58) (.t 63),
 .kill [58, 59, 60, 61, 62, 63],
 .mv 57 (.t 64),
 .keep [57, 9, 8, 7, 0]])
 (.cond (.t 57)
 (.pre [.kill [57]] (.r [.mv 65 (.t 7),
 .nchk 66 (.t 65),
 .fa 67 (.t 66) 1,
 .st 1 (.t 67) (.c (.d (.i .i64 1))),
 .kill [65, 66, 67]]))
 (.pre [.kill [57]] (.seq (.r [.mv 23 (.t 8),
 .mv 24 (.t 7),
 .nchk 25 (.t 24),
 .fa 26 (.t 25) 0,
 .ld 27 1 false (.t 26),
 .mv 28 (.t 9),
 .slc 29 0 (.t 27) none (some (.t 28)),
 .kill [8, 24, 25, 26, 27, 28],
 .bin 30 .add .num (.t 23) (.t 29),
 .mv 8 (.t 30),
 .keep [9, 8, 7, 0]])
 (.seq (.r [.mv 31 (.t 7),
 .mv 32 (.t 7),
 .nchk 33 (.t 32),
 .fa 34 (.t 33) 0,
 .ld 35 1 false (.t 34),
 .mv 36 (.t 9),
 .slc 37 0 (.t 35) (some (.t 36)) none,
 .kill [32, 33, 34, 35, 36],
 .nchk 38 (.t 31),
 .fa 39 (.t 38) 0,
 .st 1 (.t 39) (.t 37),
 .keep [9, 8, 7, 0]])
 (.r [.mv 40 (.t 7),
 .call 41 true [84] (.c (.clo ichunks_end [])) [(.t 40)],
 .kill [40, 41]])))))))))))))
 (.seq (.seq (.r [.mv 68 (.t 7),
 .nchk 69 (.t 68),
 .fa 70 (.t 69) 1,
 .ld 71 1 false (.t 70),
 .bin 72 .neq .num (.t 71) (.c (.d (.i .i64 0))),
 .kill [68, 69, 70, 71]])
 (.cond (.t 72)
 (.pre [.keep [7]] (.seq (.post (.r [.mv 73 (.t 7),
 .nchk 74 (.t 73),
 .fa 75 (.t 74) 1,
 .ld 76 1 false (.t 75),
 .mv 4 (.c (.d (.s []))),
 .mv 5 (.c (.d (.i .i64 0))),
 .mv 6 (.t 76)]) [.keep [6, 5, 4], .drop [84]])
 (.ret)))
 (.pre [.kill [72]] (.skip))))
 (.seq (.r [.mv 77 (.t 9),
 .bin 78 .eql .num (.t 77) (.c (.d (.i .i64 0))),
 .kill [9, 77]])
 (.cond (.t 78)
 (.pre [.kill [78]] (.seq (.post (.r [.mv 79 (.t 8),
 .mv 80 (.t 0),
 .len 81 (.t 80),
 .mv 82 (.t 7),
 .nchk 83 (.t 82),
 .fa 84 (.t 83) 0,
 .ld 85 1 false (.t 84),
 .lns 86 (.t 85),
 .bin 87 .sub .num (.t 81) (.t 86),
 .mv 4 (.t 79),
 .mv 5 (.t 87),
 .mv 6 (.c (.d (.i .i64 0)))]) [.keep [6, 5, 4], .drop [84]])
 (.ret)))
 (.pre [.kill [78]] (.skip)))))))
def iGetChunks_m : Fn := ⟨2, [.t 4, .t 5, .t 6], false,
 .seq (.r [.mv 4 (.c (.d (.s []))),
 .mv 5 (.c (.d (.i .i64 0))),
 .mv 6 (.c (.d (.i .i64 0))),
 .keep [1, 0]])
 (.seq (.seq (.r [.mv 10 (.t 1),
 .mv 11 (.t 0),
 .len 12 (.t 11),
 .call 13 true [] (.c (.clo iin [])) [(.t 10), (.c (.d (.i .i64 0))), (.t 12)],
 .not 14 (.t 13),
 .keep [14, 1, 0]])
 (.cond (.t 14)
 (.pre [.keep []] (.seq (.r [.mv 4 (.c (.d (.s []))),
 .mv 5 (.c (.d (.i .i64 0))),
 .mv 6 (.c (.d (.i .i64 400)))])
 (.ret)))
 (.pre [.kill [14]] (.skip))))
 (.seq (.r [.mv 15 (.t 0),
 .mv 16 (.t 1),
 .slc 17 1 (.t 15) (some (.t 16)) none,
 .b2s 18 (.t 17),
 .bd 19 [.d (.s []), .d (.i .i64 0)] [(0, 1, (.t 18))],
 .kill [1, 15, 16, 17, 18],
 .bx 20 Tchunks false (.t 19),
 .mv 7 (.t 20),
 .keep [7, 0]])
 (.seq (.r [.mv 8 (.c (.d (.s [])))])
 (.blk 0 (.pre [.keep [8, 7, 0]] (.loop iGetChunks_l0))))))⟩
/-- live: [0, 3]; objects: [] -/
def sHeadEnd_l0 : C :=
 .seq (.seq (.r [.mv 4 (.t 3),
 .bin 5 .add .num (.t 4) (.c (.d (.i .i64 3))),
 .mv 6 (.t 0),
 .len 7 (.t 6),
 .bin 8 .lss .num (.t 5) (.t 7),
 .mv 9 (.t 8),
 .kill [4, 5, 6, 7, 8],
 .gd 9 true (some 10) (.mv 10 (.t 3)),
 .gd 9 true (some 11) (.bin 11 .add .num (.t 10) (.c (.d (.i .i64 3)))),
 .gd 9 true (some 12) (.bin 12 .lss .num (.t 11) (.c (.d (.i .i64 400)))),
 .pick 13 (.t 9) (.t 12) (.c (.d (.b false))),
 .keep [13, 3, 0]])
 (.cond (.t 13)
 (.pre [.kill [13]] (.skip))
 (.pre [.keep []] (.ex 0))))
 (.seq (.blk 1 (.seq (.r [.mv 16 (.t 0),
 .mv 17 (.t 3),
 .mv 18 (.t 3),
 .bin 19 .add .num (.t 18) (.c (.d (.i .i64 4))),
 .slc 20 1 (.t 16) (some (.t 17)) (some (.t 19)),
 .b2s 21 (.t 20),
 .kill [16, 17, 18, 19, 20],
 .bin 22 .eql .num (.t 21) (.c (.d (.s [13, 10, 13, 10]))),
 .keep [22, 3, 0]])
 (.cond (.t 22)
 (.pre [.keep [3]] (.seq (.r [.mv 23 (.t 3),
 .bin 24 .add .num (.t 23) (.c (.d (.i .i64 4))),
 .mv 2 (.t 24),
 .keep [2]])
 (.ret)))
 (.pre [.kill [22]] (.skip)))))
 (.r [.mv 14 (.t 3),
 .bin 15 .add .num (.t 14) (.c (.d (.i .i64 1))),
 .mv 3 (.t 15),
 .kill [14, 15]]))
def sHeadEnd_m : Fn := ⟨1, [.t 2], false,
 .seq (.r [.mv 2 (.c (.d (.i .i64 0))),
 .kill [2]])
 (.seq (.seq (.r [.mv 3 (.c (.d (.i .i64 0)))])
 (.blk 0 (.pre [.keep [3, 0]] (.loop sHeadEnd_l0))))
 (.seq (.r [.mv 2 (.c (.d (.i .i64 (-1))))])
 (.ret)))⟩
/-- live: [0, 5, 6]; objects: [0] -/
def sl3Read_l0 : C :=
 .seq (.seq (.r [.mv 16 (.t 6),
 .mv 17 (.t 5),
 .len 18 (.t 17),
 .bin 19 .lss .num (.t 16) (.t 18),
 .kill [16, 17, 18]])
 (.cond (.t 19)
 (.pre [.kill [19]] (.skip))
 (.pre [.keep [0]] (.ex 0))))
 (.seq (.blk 1 (.seq (.r [.mv 22 (.t 0),
 .mv 23 (.t 5),
 .mv 24 (.t 6),
 .ia 25 1 (.t 23) (.t 24),
 .ld 26 1 false (.t 25),
 .call 27 true [0] (.c (.clo sl3Head [])) [(.t 22), (.t 26)],
 .kill [22, 23, 24, 25, 26],
 .mv 7 (.t 27),
 .keep [7, 6, 5, 0]])
 (.seq (.r [.mv 28 (.t 7),
 .bin 29 .neq .num (.t 28) (.c (.d (.i .i64 0))),
 .kill [28]])
 (.cond (.t 29)
 (.pre [.keep [7]] (.seq (.r [.mv 30 (.t 7),
 .mv 4 (.t 30),
 .keep [4]])
 (.ret)))
 (.pre [.kill [7, 29]] (.skip))))))
 (.r [.mv 20 (.t 6),
 .bin 21 .add .num (.t 20) (.c (.d (.i .i64 1))),
 .mv 6 (.t 21),
 .kill [20, 21]]))
def sl3Read_m : Fn := ⟨2, [.t 4], false,
 .seq (.r [.mv 4 (.c (.d (.i .i64 0))),
 .kill [4]])
 (.seq (.r [.mv 8 (.t 1),
 .call 9 true [] (.c (.clo sl3Lines [])) [(.t 8)],
 .mv 5 (.t 9),
 .keep [5, 0]])
 (.seq (.seq (.r [.mv 10 (.t 0),
 .mv 11 (.t 5),
 .ia 12 1 (.t 11) (.c (.d (.i .i64 0))),
 .ld 13 1 false (.t 12),
 .call 14 true [0] (.c (.clo sl3First [])) [(.t 10), (.t 13)],
 .not 15 (.t 14),
 .keep [15, 5, 0]])
 (.cond (.t 15)
 (.pre [.keep []] (.seq (.r [.mv 4 (.c (.d (.i .i64 400)))])
 (.ret)))
 (.pre [.kill [15]] (.skip))))
 (.seq (.seq (.r [.mv 6 (.c (.d (.i .i64 1)))])
 (.blk 0 (.pre [.keep [6, 5, 0]] (.loop sl3Read_l0))))
 (.seq (.seq (.r [.mv 31 (.t 0),
 .nchk 32 (.t 31),
 .fa 33 (.t 32) 5,
 .ld 34 1 false (.t 33),
 .bin 35 .gtr .num (.t 34) (.c (.d (.i .i64 1))),
 .keep [35, 0]])
 (.cond (.t 35)
 (.pre [.keep []] (.seq (.r [.mv 4 (.c (.d (.i .i64 400)))])
 (.ret)))
 (.pre [.kill [35]] (.skip))))
 (.seq (.seq (.r [.mv 36 (.t 0),
 .nchk 37 (.t 36),
 .fa 38 (.t 37) 4,
 .ld 39 1 false (.t 38),
 .bin 40 .gtr .num (.t 39) (.c (.d (.i .i64 200))),
 .keep [40, 0]])
 (.cond (.t 40)
 (.pre [.kill [40]] (.r [.mv 41 (.t 0),
 .mv 42 (.t 0),
 .nchk 43 (.t 42),
 .fa 44 (.t 43) 6,
 .ldm 45 (.t 44),
 .bs 46 (.int .i64) false 1 [.d (.i .i64 0)] [(0, (.c (.d (.i .i64 413))))],
 .app 47 (.int .i64) false 8 (.t 45) (.t 46),
 .kill [42, 43, 44, 45, 46],
 .nchk 48 (.t 41),
 .fa 49 (.t 48) 6,
 .st 1 (.t 49) (.t 47),
 .keep [0],
 .drop [109, 110, 111]]))
 (.pre [.kill [40]] (.skip))))
 (.seq (.r [.mv 50 (.t 0),
 .nchk 51 (.t 50),
 .fa 52 (.t 51) 6,
 .ld 53 1 false (.t 52),
 .bs 54 (.int .i64) false 3 [.d (.i .i64 0)] [(0, (.c (.d (.i .i64 431)))), (1, (.c (.d (.i .i64 501)))), (2, (.c (.d (.i .i64 413))))],
 .call 55 true [] (.c (.clo sl3Least [])) [(.t 53), (.t 54)],
 .kill [0, 50, 51, 52, 53, 54],
 .mv 4 (.t 55),
 .keep [4],
 .drop [118]])
 (.ret)))))))⟩
/-- live: [0, 1, 7]; objects: [] -/
def sGetChunks_l0 : C :=
 .seq (.seq (.r [.mv 16 (.t 7),
 .lns 17 (.t 16),
 .bin 18 .leq .num (.t 17) (.c (.d (.i .i64 200))),
 .kill [16, 17]])
 (.cond (.t 18)
 (.pre [.kill [18]] (.skip))
 (.pre [.keep []] (.ex 0))))
 (.blk 1 (.seq (.r [.mv 20 (.t 0),
 .mv 21 (.t 1),
 .call 22 true [] (.c (.clo sl4Size [])) [(.t 20), (.t 21)],
 .mv 19 (.t 22),
 .ext 23 (.t 19) 0,
 .ext 24 (.t 19) 1,
 .ext 25 (.t 19) 2,
 .kill [1, 19, 20, 21, 22],
 .mv 8 (.t 23),
 .mv 9 (.t 24),
 .mv 10 (.t 25),
 .keep [10, 9, 8, 7, 0]])
 (.seq (.seq (.r [.mv 26 (.t 10),
 .bin 27 .neq .num (.t 26) (.c (.d (.i .i64 0))),
 .kill [26]])
 (.cond (.t 27)
 (.pre [.keep [10]] (.seq (.r [.mv 28 (.t 10),
 .mv 4 (.c (.d (.s []))),
 .mv 5 (.c (.d (.i .i64 0))),
 .mv 6 (.t 28),
 .kill [10, 28]])
 (.ret)))
 (.pre [.kill [10, 27]] (.skip))))
 (.seq (.seq (.r [.mv 29 (.t 7),
 .lns 30 (.t 29),
 .mv 31 (.t 8),
 .bin 32 .add .num (.t 30) (.t 31),
 .bin 33 .gtr .num (.t 32) (.c (.d (.i .i64 200))),
 .kill [29, 30, 31, 32]])
 (.cond (.t 33)
 (.pre [.keep []] (.seq (.r [.mv 4 (.c (.d (.s []))),
 .mv 5 (.c (.d (.i .i64 0))),
 .mv 6 (.c (.d (.i .i64 413)))])
 (.ret)))
 (.pre [.kill [33]] (.skip))))
 (.seq (.seq (.r [.mv 34 (.t 8),
 .mv 35 (.t 0),
 .len 36 (.t 35),
 .mv 37 (.t 9),
 .bin 38 .sub .num (.t 36) (.t 37),
 .bin 39 .gtr .num (.t 34) (.t 38),
 .kill [34, 35, 36, 37, 38]])
 (.cond (.t 39)
 (.pre [.keep []] (.seq (.r [.mv 4 (.c (.d (.s []))),
 .mv 5 (.c (.d (.i .i64 0))),
 .mv 6 (.c (.d (.i .i64 1)))])
 (.ret)))
 (.pre [.kill [39]] (.skip))))
 (.seq (.r [.mv 40 (.t 7),
 .mv 41 (.t 0),
 .mv 42 (.t 9),
 .mv 43 (.t 9),
 .mv 44 (.t 8),
 .bin 45 .add .num (.t 43) (.t 44),
 .slc 46 1 (.t 41) (some (.t 42)) (some (.t 45)),
 .kill [7, 41, 42, 43, 44, 45],
 .b2s 47 (.t 46),
 .bin 48 .add .num (.t 40) (.t 47),
 .mv 7 (.t 48),
 .keep [9, 8, 7, 0]])
 (.seq (.r [.mv 49 (.t 0),
 .mv 50 (.t 9),
 .mv 51 (.t 8),
 .bin 52 .add .num (.t 50) (.t 51),
 .call 53 true [] (.c (.clo sl4End [])) [(.t 49), (.t 52)],
 .mv 10 (.t 53),
 .kill [49, 50, 51, 52, 53]])
 (.seq (.seq (.r [.mv 54 (.t 10),
 .bin 55 .neq .num (.t 54) (.c (.d (.i .i64 0))),
 .kill [54]])
 (.cond (.t 55)
 (.pre [.keep [10]] (.seq (.r [.mv 56 (.t 10),
 .mv 4 (.c (.d (.s []))),
 .mv 5 (.c (.d (.i .i64 0))),
 .mv 6 (.t 56),
 .kill [10, 56]])
 (.ret)))
 (.pre [.kill [10, 55]] (.skip))))
 (.seq (.r [.mv 57 (.t 9),
 .mv 58 (.t 8),
 .bin 59 .add .num (.t 57) (.t 58),
 .bin 60 .add .num (.t 59) (.c (.d (.i .i64 2))),
 .mv 1 (.t 60),
 .keep [8, 7, 1, 0]])
 (.seq (.r [.mv 61 (.t 8),
 .bin 62 .eql .num (.t 61) (.c (.d (.i .i64 0))),
 .kill [8, 61]])
 (.cond (.t 62)
 (.pre [.kill [0, 62]] (.seq (.r [.mv 63 (.t 7),
 .mv 64 (.t 1),
 .mv 4 (.t 63),
 .mv 5 (.t 64),
 .mv 6 (.c (.d (.i .i64 0))),
 .keep [6, 5, 4]])
 (.ret)))
 (.pre [.kill [62]] (.skip)))))))))))))
def sGetChunks_m : Fn := ⟨2, [.t 4, .t 5, .t 6], false,
 .seq (.r [.mv 4 (.c (.d (.s []))),
 .mv 5 (.c (.d (.i .i64 0))),
 .mv 6 (.c (.d (.i .i64 0))),
 .keep [1, 0]])
 (.seq (.seq (.r [.mv 11 (.t 1),
 .mv 12 (.t 0),
 .len 13 (.t 12),
 .call 14 true [] (.c (.clo sl1In [])) [(.t 11), (.c (.d (.i .i64 0))), (.t 13)],
 .not 15 (.t 14),
 .keep [15, 1, 0]])
 (.cond (.t 15)
 (.pre [.keep []] (.seq (.r [.mv 4 (.c (.d (.s []))),
 .mv 5 (.c (.d (.i .i64 0))),
 .mv 6 (.c (.d (.i .i64 400)))])
 (.ret)))
 (.pre [.kill [15]] (.skip))))
 (.seq (.r [.mv 7 (.c (.d (.s [])))])
 (.seq (.blk 0 (.pre [.keep [7, 1, 0]] (.loop sGetChunks_l0)))
 (.seq (.r [.mv 4 (.c (.d (.s []))),
 .mv 5 (.c (.d (.i .i64 0))),
 .mv 6 (.c (.d (.i .i64 413)))])
 (.ret)))))⟩
def sl3Put_m : Fn := ⟨3, [.t 6], false,
 .seq (.r [.bx 3 TReq true (.t 0),
 .mv 6 (.c (.nil .u8)),
 .opn 6 6 false,
 .kill [0, 6],
 .drop [70]])
 (.seq (.post (.r [.fa 8 (.t 3) 0,
 .ld 9 1 false (.t 8),
 .bin 10 .add .num (.t 9) (.c (.d (.s [32]))),
 .fa 11 (.t 3) 1,
 .ld 12 1 false (.t 11),
 .bin 13 .add .num (.t 10) (.t 12),
 .bin 14 .add .num (.t 13) (.c (.d (.s [32, 72, 84, 84, 80, 47, 49, 46, 49]))),
 .bin 15 .add .num (.t 14) (.c (.d (.s [13, 10]))),
 .fa 16 (.t 3) 2,
 .ld 17 1 false (.t 16),
 .call 18 true [] (.c (.clo sl3HeadsText [])) [(.t 17)],
 .bin 19 .add .num (.t 15) (.t 18),
 .mv 20 (.t 1),
 .bin 21 .add .num (.t 19) (.t 20),
 .bin 22 .add .num (.t 21) (.c (.d (.s [13, 10]))),
 .mv 7 (.t 22)]) [.keep [7, 3, 2]])
 (.seq (.seq (.r [.ld 23 4 true (.t 3),
 .call 24 true [] (.c (.clo sReqOk [])) [(.t 23)],
 .not 25 (.t 24),
 .mv 26 (.t 25),
 .gd 26 false (some 27) (.mv 27 (.t 7)),
 .gd 26 false (some 28) (.lns 28 (.t 27)),
 .kill [3, 23, 24, 25, 27],
 .gd 26 false (some 29) (.bin 29 .gtr .num (.t 28) (.c (.d (.i .i64 400)))),
 .pick 30 (.t 26) (.c (.d (.b true))) (.t 29),
 .keep [30, 7, 2],
 .drop [67]])
 (.cond (.t 30)
 (.pre [.keep []] (.seq (.r [.bs 31 .u8 false 0 [.d (.u 0)] [],
 .mv 6 (.t 31),
 .ren 95 70,
 .kill [31],
 .drop [95]])
 (.ret)))
 (.pre [.kill [30]] (.skip))))
 (.seq (.r [.mv 32 (.t 7),
 .mv 33 (.t 2),
 .bin 34 .add .num (.t 32) (.t 33),
 .s2b 35 (.t 34),
 .kill [2, 7, 32, 33, 34],
 .mv 6 (.t 35),
 .ren 99 70,
 .keep [6],
 .drop [99]])
 (.ret))))⟩
/-- live: [0, 3]; objects: [] -/
def sNumText_l0 : C :=
 .seq (.seq (.r [.mv 12 (.t 0),
 .bin 13 .gtr .num (.t 12) (.c (.d (.i .i64 9))),
 .kill [12]])
 (.cond (.t 13)
 (.pre [.kill [13]] (.skip))
 (.pre [.keep [3]] (.ex 0))))
 (.blk 1 (.seq (.r [.mv 14 (.t 0),
 .bin 15 .quo .num (.t 14) (.c (.d (.i .i64 10))),
 .mv 0 (.t 15),
 .kill [14, 15]])
 (.r [.mv 16 (.t 0),
 .bin 17 .rem .num (.t 16) (.c (.d (.i .i64 10))),
 .bin 18 .add .num (.c (.d (.i .i64 48))) (.t 17),
 .cvi 19 .u8 (.t 18),
 .bs 20 .u8 false 1 [.d (.u 0)] [(0, (.t 19))],
 .b2s 21 (.t 20),
 .kill [16, 17, 18, 19, 20],
 .mv 22 (.t 3),
 .bin 23 .add .num (.t 21) (.t 22),
 .mv 3 (.t 23),
 .keep [3, 0],
 .drop [84]])))
def sNumText_m : Fn := ⟨1, [.t 2], false,
 .seq (.r [.mv 2 (.c (.d (.s []))),
 .kill [2]])
 (.seq (.seq (.r [.mv 4 (.t 0),
 .bin 5 .lss .num (.t 4) (.c (.d (.i .i64 0))),
 .kill [4]])
 (.cond (.t 5)
 (.pre [.keep []] (.r [.mv 0 (.c (.d (.i .i64 0)))]))
 (.pre [.kill [5]] (.skip))))
 (.seq (.r [.mv 6 (.t 0),
 .bin 7 .rem .num (.t 6) (.c (.d (.i .i64 10))),
 .bin 8 .add .num (.c (.d (.i .i64 48))) (.t 7),
 .cvi 9 .u8 (.t 8),
 .bs 10 .u8 false 1 [.d (.u 0)] [(0, (.t 9))],
 .b2s 11 (.t 10),
 .kill [6, 7, 8, 9, 10],
 .mv 3 (.t 11),
 .keep [3, 0],
 .drop [74]])
 (.seq (.blk 0 (.pre [.keep [3, 0]] (.loop sNumText_l0)))
 (.seq (.r [.mv 24 (.t 3),
 .mv 2 (.t 24),
 .keep [2]])
 (.ret)))))⟩
def ilengthText_m : Fn := ⟨1, [.t 2], false,
 .seq (.r [.mv 2 (.c (.d (.s []))),
 .kill [2]])
 (.seq (.r [.mv 3 (.t 0),
 .lns 4 (.t 3),
 .call 5 true [] (.c (.clo iNumText [])) [(.t 4)],
 .bin 6 .add .num (.c (.d (.s [99, 111, 110, 116, 101, 110, 116, 45, 108, 101, 110, 103, 116, 104, 58, 32]))) (.t 5),
 .bin 7 .add .num (.t 6) (.c (.d (.s [13, 10]))),
 .kill [0, 3, 4, 5, 6],
 .mv 2 (.t 7),
 .keep [2]])
 (.ret))⟩
def iputReq_m : Fn := ⟨3, [.t 6], false,
 .seq (.r [.bx 3 TReq true (.t 0),
 .mv 6 (.c (.nil .u8)),
 .opn 6 6 false,
 .kill [0, 6],
 .drop [70]])
 (.seq (.post (.r [.fa 8 (.t 3) 0,
 .ld 9 1 false (.t 8),
 .bin 10 .add .num (.t 9) (.c (.d (.s [32]))),
 .fa 11 (.t 3) 1,
 .ld 12 1 false (.t 11),
 .bin 13 .add .num (.t 10) (.t 12),
 .bin 14 .add .num (.t 13) (.c (.d (.s [32, 72, 84, 84, 80, 47, 49, 46, 49]))),
 .bin 15 .add .num (.t 14) (.c (.d (.s [13, 10]))),
 .fa 16 (.t 3) 2,
 .ld 17 1 false (.t 16),
 .call 18 true [] (.c (.clo iheadText [])) [(.t 17)],
 .bin 19 .add .num (.t 15) (.t 18),
 .mv 20 (.t 1),
 .bin 21 .add .num (.t 19) (.t 20),
 .bin 22 .add .num (.t 21) (.c (.d (.s [13, 10]))),
 .mv 7 (.t 22)]) [.keep [7, 3, 2]])
 (.seq (.seq (.r [.ld 23 4 true (.t 3),
 .call 24 true [] (.c (.clo iReqOk [])) [(.t 23)],
 .not 25 (.t 24),
 .mv 26 (.t 25),
 .gd 26 false (some 27) (.mv 27 (.t 7)),
 .gd 26 false (some 28) (.lns 28 (.t 27)),
 .kill [3, 23, 24, 25, 27],
 .gd 26 false (some 29) (.bin 29 .gtr .num (.t 28) (.c (.d (.i .i64 400)))),
 .pick 30 (.t 26) (.c (.d (.b true))) (.t 29),
 .keep [30, 7, 2],
 .drop [67]])
 (.cond (.t 30)
 (.pre [.keep []] (.seq (.r [.mv 6 (.c (.nil .u8)),
 .opn 6 6 false])
 (.ret)))
 (.pre [.kill [30]] (.skip))))
 (.seq (.r [.mv 31 (.t 7),
 .s2b 32 (.t 31),
 .mv 33 (.t 2),
 .app 34 .u8 false 1 (.t 32) (.t 33),
 .kill [2, 7, 31, 32, 33],
 .mv 6 (.t 34),
 .ren 98 70,
 .keep [6],
 .drop [96, 98]])
 (.ret))))⟩
/-- live: [0, 1, 5]; objects: [] -/
def ilineOk_l0 : C :=
 .seq (.seq (.r [.mv 6 (.t 5),
 .mv 7 (.t 0),
 .lns 8 (.t 7),
 .bin 9 .lss .num (.t 6) (.t 8),
 .kill [6, 7, 8]])
 (.cond (.t 9)
 (.pre [.kill [9]] (.skip))
 (.pre [.kill [5, 9]] (.ex 0))))
 (.seq (.blk 1 (.seq (.r [.mv 12 (.t 0),
 .mv 13 (.t 5),
 .ix 14 (.t 12) (.t 13),
 .call 15 true [] (.c (.clo iisLarge [])) [(.t 14)],
 .not 16 (.t 15),
 .kill [12, 13, 14, 15]])
 (.cond (.t 16)
 (.pre [.keep []] (.seq (.r [.mv 4 (.c (.d (.b false)))])
 (.ret)))
 (.pre [.kill [16]] (.skip)))))
 (.r [.mv 10 (.t 5),
 .bin 11 .add .num (.t 10) (.c (.d (.i .i64 1))),
 .mv 5 (.t 11),
 .kill [10, 11]]))
def ilineOk_m : Fn := ⟨2, [.t 4], false,
 .seq (.r [.mv 4 (.c (.d (.b false))),
 .kill [4]])
 (.seq (.seq (.r [.mv 5 (.c (.d (.i .i64 0)))])
 (.blk 0 (.pre [.keep [5, 1, 0]] (.loop ilineOk_l0))))
 (.seq (.r [.mv 17 (.t 0),
 .lns 18 (.t 17),
 .call 19 true [] (.c (.clo iin [])) [(.t 18), (.c (.d (.i .i64 1))), (.c (.d (.i .i64 9)))],
 .mv 20 (.t 19),
 .gd 20 true (some 21) (.mv 21 (.t 1)),
 .gd 20 true (some 22) (.lns 22 (.t 21)),
 .kill [0, 17, 18, 19, 21],
 .gd 20 true (some 23) (.call 23 true [] (.c (.clo iin [])) [(.t 22), (.c (.d (.i .i64 1))), (.c (.d (.i .i64 80)))]),
 .pick 24 (.t 20) (.t 23) (.c (.d (.b false))),
 .mv 25 (.t 24),
 .gd 25 true (some 26) (.mv 26 (.t 1)),
 .gd 25 true (some 27) (.call 27 true [] (.c (.clo iPlain [])) [(.t 26)]),
 .kill [20, 22, 23, 24, 26],
 .pick 28 (.t 25) (.t 27) (.c (.d (.b false))),
 .mv 29 (.t 28),
 .gd 29 true (some 30) (.mv 30 (.t 1)),
 .gd 29 true (some 31) (.call 31 true [] (.c (.clo x_strings_Contains [])) [(.t 30), (.c (.d (.s [32])))]),
 .kill [1, 25, 27, 28, 30],
 .gd 29 true (some 32) (.not 32 (.t 31)),
 .pick 33 (.t 29) (.t 32) (.c (.d (.b false))),
 .mv 4 (.t 33),
 .keep [4]])
 (.ret)))⟩
def ireqHead_line_m : Fn := ⟨2, [], false,
 .seq (.r [.mv 8 (.t 1),
 .call 9 true [] (.c (.clo x_strings_Cut [])) [(.t 8), (.c (.d (.s [58])))],
 .mv 7 (.t 9),
 .ext 10 (.t 7) 0,
 .ext 11 (.t 7) 1,
 .ext 12 (.t 7) 2,
 .mv 4 (.t 10),
 .kill [1, 7, 8, 9, 10],
 .mv 5 (.t 11),
 .mv 6 (.t 12),
 .keep [6, 5, 4, 0]])
 (.seq (.r [.mv 13 (.t 4),
 .call 14 true [] (.c (.clo iLower [])) [(.t 13)],
 .mv 15 (.t 5),
 .call 16 true [] (.c (.clo iTrim [])) [(.t 15)],
 .mv 4 (.t 14),
 .mv 5 (.t 16),
 .kill [13, 14, 15, 16]])
 (.blk 0 (.seq (.r [.mv 32 (.t 6),
 .not 33 (.t 32),
 .mv 34 (.t 33),
 .gd 34 false (some 35) (.mv 35 (.t 4)),
 .gd 34 false (some 36) (.call 36 true [] (.c (.clo iSmallName [])) [(.t 35)]),
 .gd 34 false (some 37) (.not 37 (.t 36)),
 .kill [6, 32, 33, 35, 36],
 .pick 38 (.t 34) (.c (.d (.b true))) (.t 37),
 .mv 39 (.t 38),
 .gd 39 false (some 40) (.mv 40 (.t 5)),
 .gd 39 false (some 41) (.call 41 true [] (.c (.clo ivalOk [])) [(.t 40)]),
 .gd 39 false (some 42) (.not 42 (.t 41)),
 .kill [34, 37, 38, 40, 41],
 .pick 43 (.t 39) (.c (.d (.b true))) (.t 42),
 .mv 31 (.t 43),
 .keep [31, 5, 4, 0]])
 (.cond (.t 31)
 (.pre [.keep [0]] (.r [.mv 44 (.t 0),
 .nchk 45 (.t 44),
 .fa 46 (.t 45) 8,
 .st 1 (.t 46) (.c (.d (.b true))),
 .keep []]))
 (.pre [.kill [31]] (.seq (.r [.mv 48 (.t 4),
 .bin 49 .eql .num (.t 48) (.c (.d (.s [99, 111, 110, 116, 101, 110, 116, 45, 108, 101, 110, 103, 116, 104]))),
 .mv 50 (.t 49),
 .gd 50 false (some 51) (.mv 51 (.t 4)),
 .gd 50 false (some 52) (.bin 52 .eql .num (.t 51) (.c (.d (.s [116, 114, 97, 110, 115, 102, 101, 114, 45, 101, 110, 99, 111, 100, 105, 110, 103])))),
 .pick 53 (.t 50) (.c (.d (.b true))) (.t 52),
 .kill [48, 49, 50, 51, 52],
 .mv 47 (.t 53),
 .keep [47, 5, 4, 0]])
 (.cond (.t 47)
 (.pre [.kill [47]] (.r [.mv 54 (.t 0),
 .mv 55 (.t 4),
 .mv 56 (.t 5),
 .call 57 true [0] (.c (.clo ireqHead_special [])) [(.t 54), (.t 55), (.t 56)],
 .keep []]))
 (.pre [.kill [47]] (.r [.mv 17 (.t 0),
 .mv 18 (.t 0),
 .nchk 19 (.t 18),
 .fa 20 (.t 19) 0,
 .fa 21 (.t 20) 2,
 .ldm 22 (.t 21),
 .kill [0, 18, 19, 20, 21],
 .mv 23 (.t 4),
 .mv 24 (.t 5),
 .bd 25 [.d (.s []), .d (.s [])] [(0, 1, (.t 23)), (1, 1, (.t 24))],
 .bs 26 THead false 1 [.d (.s []), .d (.s [])] [(0, (.t 25))],
 .kill [4, 5, 23, 24, 25],
 .app 27 THead false 32 (.t 22) (.t 26),
 .nchk 28 (.t 17),
 .fa 29 (.t 28) 0,
 .fa 30 (.t 29) 2,
 .kill [17, 22, 26, 28, 29],
 .st 1 (.t 30) (.t 27),
 .keep [],
 .drop [86, 90, 91]])))))))))⟩
/-- live: [3, 8, 9, 10]; objects: [71] -/
def iLower_l0 : C :=
 .seq (.r [.bin 11 .lss .num (.t 10) (.t 9)])
 (.seq (.cond (.t 11)
 (.pre [.kill [11]] (.skip))
 (.pre [.keep [3]] (.ex 0)))
 (.seq (.blk 1 (.seq (.r [.mv 12 (.t 10),
 .ia 13 1 (.t 8) (.t 10),
 .ld 14 1 false (.t 13),
 .mv 4 (.t 12),
 .mv 5 (.t 14),
 .kill [12, 13, 14]])
 (.seq (.r [.mv 15 (.t 5),
 .call 16 true [] (.c (.clo iisLarge [])) [(.t 15)],
 .kill [15]])
 (.cond (.t 16)
 (.pre [.kill [16]] (.r [.mv 17 (.t 3),
 .mv 18 (.t 4),
 .mv 19 (.t 5),
 .bin 20 .add .num (.t 19) (.c (.d (.u 32))),
 .ia 21 1 (.t 17) (.t 18),
 .kill [4, 5, 17, 18, 19],
 .st 1 (.t 21) (.t 20),
 .keep [10, 9, 8, 3]]))
 (.pre [.kill [4, 5, 16]] (.skip))))))
 (.r [.bin 22 .add .num (.t 10) (.c (.d (.i .i64 1))),
 .mv 10 (.t 22),
 .kill [22]])))
def iLower_m : Fn := ⟨1, [.t 2], false,
 .seq (.r [.mv 2 (.c (.d (.s []))),
 .kill [2]])
 (.seq (.r [.mv 6 (.t 0),
 .s2b 7 (.t 6),
 .mv 3 (.t 7),
 .keep [3]])
 (.seq (.seq (.r [.mv 8 (.t 3),
 .len 9 (.t 8),
 .mv 10 (.c (.d (.i .i64 0)))])
 (.blk 0 (.pre [.keep [10, 9, 8, 3]] (.loop iLower_l0))))
 (.seq (.r [.mv 23 (.t 3),
 .b2s 24 (.t 23),
 .mv 2 (.t 24),
 .keep [2],
 .drop [71]])
 (.ret))))⟩
def ichunks_size_m : Fn := ⟨1, [.t 2], false,
 .seq (.r [.mv 2 (.c (.d (.i .i64 0))),
 .kill [2]])
 (.seq (.r [.mv 9 (.t 0),
 .nchk 10 (.t 9),
 .fa 11 (.t 10) 0,
 .ld 12 1 false (.t 11),
 .call 13 true [] (.c (.clo x_strings_Cut [])) [(.t 12), (.c (.d (.s [13])))],
 .mv 8 (.t 13),
 .kill [9, 10, 11, 12, 13],
 .ext 14 (.t 8) 0,
 .ext 15 (.t 8) 1,
 .ext 16 (.t 8) 2,
 .mv 3 (.t 14),
 .mv 4 (.t 15),
 .mv 5 (.t 16),
 .keep [5, 3, 0]])
 (.seq (.r [.mv 18 (.t 3),
 .call 19 true [] (.c (.clo iParseHex [])) [(.t 18)],
 .mv 17 (.t 19),
 .ext 20 (.t 17) 0,
 .ext 21 (.t 17) 1,
 .mv 6 (.t 20),
 .mv 7 (.t 21),
 .kill [17, 18, 19, 20, 21]])
 (.seq (.blk 0 (.seq (.r [.mv 35 (.t 5),
 .not 36 (.t 35),
 .mv 37 (.t 36),
 .gd 37 true (some 38) (.mv 38 (.t 3)),
 .gd 37 true (some 39) (.bin 39 .eql .num (.t 38) (.c (.d (.s [])))),
 .pick 40 (.t 37) (.t 39) (.c (.d (.b false))),
 .kill [35, 36, 37, 38, 39],
 .mv 34 (.t 40),
 .kill [35, 36, 37, 38, 39, 40]])
 (.cond (.t 34)
 (.pre [.keep [6, 0]] (.r [.mv 41 (.t 0),
 .nchk 42 (.t 41),
 .fa 43 (.t 42) 1,
 .st 1 (.t 43) (.c (.d (.i .i64 1))),
 .keep [6]]))
 (.pre [.kill [34]] (.seq (.r [.mv 45 (.t 7),
 .not 46 (.t 45),
 .mv 44 (.t 46),
 .kill [7, 45, 46]])
 (.cond (.t 44)
 (.pre [.keep [6, 0]] (.r [.mv 47 (.t 0),
 .nchk 48 (.t 47),
 .fa 49 (.t 48) 1,
 .st 1 (.t 49) (.c (.d (.i .i64 400))),
 .keep [6]]))
 (.pre [.kill [44]] (.seq (.r [.mv 51 (.t 5),
 .not 52 (.t 51),
 .mv 50 (.t 52),
 .kill [5, 51, 52]])
 (.cond (.t 50)
 (.pre [.kill [3, 50]] (.r [.mv 53 (.t 0),
 .nchk 54 (.t 53),
 .fa 55 (.t 54) 1,
 .st 1 (.t 55) (.c (.d (.i .i64 1))),
 .keep [6]]))
 (.pre [.kill [50]] (.seq (.r [.mv 22 (.t 0),
 .mv 23 (.t 0),
 .nchk 24 (.t 23),
 .fa 25 (.t 24) 0,
 .ld 26 1 false (.t 25),
 .mv 27 (.t 3),
 .lns 28 (.t 27),
 .kill [3, 23, 24, 25, 27],
 .slc 29 0 (.t 26) (some (.t 28)) none,
 .nchk 30 (.t 22),
 .fa 31 (.t 30) 0,
 .st 1 (.t 31) (.t 29),
 .keep [6, 0]])
 (.r [.mv 32 (.t 0),
 .call 33 true [0] (.c (.clo ichunks_end [])) [(.t 32)],
 .keep [6]]))))))))))))
 (.seq (.r [.mv 56 (.t 6),
 .mv 2 (.t 56),
 .keep [2]])
 (.ret)))))⟩
/-- live: [0, 2]; objects: [0] -/
def ichunks_end_l0 : C :=
 .seq (.seq (.r [.mv 3 (.t 2),
 .bin 4 .lss .num (.t 3) (.c (.d (.i .i64 2))),
 .mv 5 (.t 4),
 .gd 5 true (some 6) (.mv 6 (.t 0)),
 .gd 5 true (some 7) (.nchk 7 (.t 6)),
 .gd 5 true (some 8) (.fa 8 (.t 7) 1),
 .gd 5 true (some 9) (.ld 9 1 false (.t 8)),
 .kill [3, 4, 6, 7, 8],
 .gd 5 true (some 10) (.bin 10 .eql .num (.t 9) (.c (.d (.i .i64 0)))),
 .pick 11 (.t 5) (.t 10) (.c (.d (.b false))),
 .keep [11, 2, 0]])
 (.cond (.t 11)
 (.pre [.kill [11]] (.skip))
 (.pre [.keep []] (.ex 0))))
 (.seq (.blk 1 (.blk 2 (.seq (.r [.mv 23 (.t 0),
 .nchk 24 (.t 23),
 .fa 25 (.t 24) 0,
 .ld 26 1 false (.t 25),
 .bin 27 .eql .num (.t 26) (.c (.d (.s []))),
 .mv 22 (.t 27),
 .keep [22, 2, 0]])
 (.cond (.t 22)
 (.pre [.kill [22]] (.r [.mv 28 (.t 0),
 .nchk 29 (.t 28),
 .fa 30 (.t 29) 1,
 .st 1 (.t 30) (.c (.d (.i .i64 1))),
 .keep [2, 0]]))
 (.pre [.kill [22]] (.seq (.post (.r [.mv 32 (.t 0),
 .nchk 33 (.t 32),
 .fa 34 (.t 33) 0,
 .ld 35 1 false (.t 34),
 .ix 36 (.t 35) (.c (.d (.i .i64 0))),
 .mv 37 (.t 2),
 .ix 38 (.c (.d (.s [13, 10]))) (.t 37),
 .bin 39 .neq .num (.t 36) (.t 38),
 .mv 31 (.t 39)]) [.keep [31, 2, 0]])
 (.cond (.t 31)
 (.pre [.kill [31]] (.r [.mv 40 (.t 0),
 .nchk 41 (.t 40),
 .fa 42 (.t 41) 1,
 .st 1 (.t 42) (.c (.d (.i .i64 400))),
 .keep [2, 0]]))
 (.pre [.kill [31]] (.r [.mv 14 (.t 0),
 .mv 15 (.t 0),
 .nchk 16 (.t 15),
 .fa 17 (.t 16) 0,
 .ld 18 1 false (.t 17),
 .slc 19 0 (.t 18) (some (.c (.d (.i .i64 1)))) none,
 .nchk 20 (.t 14),
 .kill [14, 15, 16, 17, 18],
 .fa 21 (.t 20) 0,
 .st 1 (.t 21) (.t 19),
 .keep [2, 0]])))))))))
 (.r [.mv 12 (.t 2),
 .bin 13 .add .num (.t 12) (.c (.d (.i .i64 1))),
 .mv 2 (.t 13),
 .kill [12, 13]]))
def ichunks_end_m : Fn := ⟨1, [], false,
 .seq (.r [.mv 2 (.c (.d (.i .i64 0)))])
 (.blk 0 (.pre [.keep [2, 0]] (.loop ichunks_end_l0)))⟩
/-- live: [0, 3, 4, 5]; objects: [67] -/
def sl3Lines_l0 : C :=
 .seq (.seq (.r [.mv 7 (.t 5),
 .mv 8 (.t 0),
 .lns 9 (.t 8),
 .bin 10 .leq .num (.t 7) (.t 9),
 .kill [7, 8, 9]])
 (.cond (.t 10)
 (.pre [.kill [10]] (.skip))
 (.pre [.keep [3]] (.ex 0))))
 (.seq (.blk 1 (.seq (.r [.mv 13 (.t 5),
 .mv 14 (.t 0),
 .lns 15 (.t 14),
 .bin 16 .eql .num (.t 13) (.t 15),
 .kill [13, 14, 15]])
 (.cond (.t 16)
 (.pre [.kill [16]] (.r [.mv 17 (.t 3),
 .mv 18 (.t 0),
 .mv 19 (.t 4),
 .slc 20 0 (.t 18) (some (.t 19)) none,
 .bs 21 .str false 1 [.d (.s [])] [(0, (.t 20))],
 .app 22 .str false 16 (.t 17) (.t 21),
 .kill [3, 17, 18, 19, 20, 21],
 .mv 3 (.t 22),
 .ren 86 67,
 .keep [5, 4, 3, 0],
 .drop [85, 86]]))
 (.pre [.kill [16]] (.seq (.r [.mv 23 (.t 5),
 .bin 24 .add .num (.t 23) (.c (.d (.i .i64 1))),
 .mv 25 (.t 0),
 .lns 26 (.t 25),
 .bin 27 .lss .num (.t 24) (.t 26),
 .mv 28 (.t 27),
 .kill [23, 24, 25, 26, 27],
 .gd 28 true (some 29) (.mv 29 (.t 0)),
 .gd 28 true (some 30) (.mv 30 (.t 5)),
 .gd 28 true (some 31) (.ix 31 (.t 29) (.t 30)),
 .gd 28 true (some 32) (.bin 32 .eql .num (.t 31) (.c (.d (.u 13)))),
 .pick 33 (.t 28) (.t 32) (.c (.d (.b false))),
 .kill [28, 29, 30, 31, 32],
 .mv 34 (.t 33),
 .gd 34 true (some 35) (.mv 35 (.t 0)),
 .gd 34 true (some 36) (.mv 36 (.t 5)),
 .gd 34 true (some 37) (.bin 37 .add .num (.t 36) (.c (.d (.i .i64 1)))),
 .gd 34 true (some 38) (.ix 38 (.t 35) (.t 37)),
 .gd 34 true (some 39) (.bin 39 .eql .num (.t 38) (.c (.d (.u 10)))),
 .kill [33, 35, 36, 37, 38],
 .pick 40 (.t 34) (.t 39) (.c (.d (.b false))),
 .keep [40, 5, 4, 3, 0]])
 (.cond (.t 40)
 (.pre [.kill [40]] (.seq (.r [.mv 41 (.t 3),
 .mv 42 (.t 0),
 .mv 43 (.t 4),
 .mv 44 (.t 5),
 .slc 45 0 (.t 42) (some (.t 43)) (some (.t 44)),
 .kill [3, 4, 42, 43, 44],
 .bs 46 .str false 1 [.d (.s [])] [(0, (.t 45))],
 .app 47 .str false 16 (.t 41) (.t 46),
 .mv 3 (.t 47),
 .ren 111 67,
 .keep [5, 3, 0],
 .drop [110, 111]])
 (.seq (.r [.mv 48 (.t 5),
 .bin 49 .add .num (.t 48) (.c (.d (.i .i64 2))),
 .mv 4 (.t 49),
 .kill [48, 49]])
 (.r [.mv 50 (.t 5),
 .bin 51 .add .num (.t 50) (.c (.d (.i .i64 1))),
 .mv 5 (.t 51),
 .kill [50, 51]]))))
 (.pre [.kill [40]] (.skip))))))))
 (.r [.mv 11 (.t 5),
 .bin 12 .add .num (.t 11) (.c (.d (.i .i64 1))),
 .mv 5 (.t 12),
 .kill [11, 12]]))
def sl3Lines_m : Fn := ⟨1, [.t 2], false,
 .seq (.r [.mv 2 (.c (.nil .str)),
 .opn 2 2 false,
 .kill [2],
 .drop [66]])
 (.seq (.r [.bs 6 .str false 0 [.d (.s [])] [],
 .mv 3 (.t 6),
 .ren 70 67,
 .kill [6],
 .drop [70]])
 (.seq (.r [.mv 4 (.c (.d (.i .i64 0)))])
 (.seq (.seq (.r [.mv 5 (.c (.d (.i .i64 0)))])
 (.blk 0 (.pre [.keep [5, 4, 3, 0]] (.loop sl3Lines_l0))))
 (.seq (.r [.mv 52 (.t 3),
 .mv 2 (.t 52),
 .ren 67 66,
 .keep [2],
 .drop [67]])
 (.ret)))))⟩
def sl3First_m : Fn := ⟨2, [.t 4], false,
 .seq (.r [.mv 4 (.c (.d (.b false))),
 .kill [4]])
 (.seq (.r [.mv 6 (.t 1),
 .call 7 true [] (.c (.clo sl2Split [])) [(.t 6), (.c (.d (.u 32)))],
 .mv 5 (.t 7),
 .keep [5, 0]])
 (.seq (.seq (.r [.mv 8 (.t 5),
 .len 9 (.t 8),
 .bin 10 .neq .num (.t 9) (.c (.d (.i .i64 3))),
 .mv 11 (.t 10),
 .gd 11 false (some 12) (.mv 12 (.t 5)),
 .gd 11 false (some 13) (.ia 13 1 (.t 12) (.c (.d (.i .i64 2)))),
 .gd 11 false (some 14) (.ld 14 1 false (.t 13)),
 .kill [8, 9, 10, 12, 13],
 .gd 11 false (some 15) (.bin 15 .neq .num (.t 14) (.c (.d (.s [72, 84, 84, 80, 47, 49, 46, 49])))),
 .pick 16 (.t 11) (.c (.d (.b true))) (.t 15),
 .keep [16, 5, 0]])
 (.cond (.t 16)
 (.pre [.keep []] (.seq (.r [.mv 4 (.c (.d (.b false)))])
 (.ret)))
 (.pre [.kill [16]] (.skip))))
 (.seq (.r [.mv 17 (.t 0),
 .mv 18 (.t 5),
 .ia 19 1 (.t 18) (.c (.d (.i .i64 0))),
 .ld 20 1 false (.t 19),
 .nchk 21 (.t 17),
 .fa 22 (.t 21) 0,
 .fa 23 (.t 22) 0,
 .kill [17, 18, 19, 21, 22],
 .st 1 (.t 23) (.t 20),
 .keep [5, 0]])
 (.seq (.r [.mv 24 (.t 0),
 .mv 25 (.t 5),
 .ia 26 1 (.t 25) (.c (.d (.i .i64 1))),
 .ld 27 1 false (.t 26),
 .nchk 28 (.t 24),
 .fa 29 (.t 28) 0,
 .kill [0, 24, 25, 26, 28],
 .fa 30 (.t 29) 1,
 .st 1 (.t 30) (.t 27),
 .keep [5]])
 (.seq (.r [.mv 31 (.t 5),
 .ia 32 1 (.t 31) (.c (.d (.i .i64 0))),
 .ld 33 1 false (.t 32),
 .call 34 true [] (.c (.clo sl3Method [])) [(.t 33)],
 .mv 35 (.t 34),
 .gd 35 true (some 36) (.mv 36 (.t 5)),
 .kill [5, 31, 32, 33, 34],
 .gd 35 true (some 37) (.ia 37 1 (.t 36) (.c (.d (.i .i64 1)))),
 .gd 35 true (some 38) (.ld 38 1 false (.t 37)),
 .gd 35 true (some 39) (.call 39 true [] (.c (.clo sl3Target [])) [(.t 38)]),
 .pick 40 (.t 35) (.t 39) (.c (.d (.b false))),
 .kill [35, 36, 37, 38, 39],
 .mv 4 (.t 40),
 .keep [4]])
 (.ret))))))⟩
/-- live: [0, 1, 5]; objects: [0] -/
def sl3Head_l0 : C :=
 .seq (.seq (.r [.mv 9 (.t 5),
 .mv 10 (.t 1),
 .lns 11 (.t 10),
 .bin 12 .lss .num (.t 9) (.t 11),
 .mv 13 (.t 12),
 .gd 13 true (some 14) (.mv 14 (.t 1)),
 .gd 13 true (some 15) (.mv 15 (.t 5)),
 .gd 13 true (some 16) (.ix 16 (.t 14) (.t 15)),
 .kill [9, 10, 11, 12, 14, 15],
 .gd 13 true (some 17) (.bin 17 .neq .num (.t 16) (.c (.d (.u 58)))),
 .pick 18 (.t 13) (.t 17) (.c (.d (.b false))),
 .keep [18, 5, 1, 0]])
 (.cond (.t 18)
 (.pre [.kill [18]] (.skip))
 (.pre [.kill [18]] (.ex 0))))
 (.blk 1 (.r [.mv 19 (.t 5),
 .bin 20 .add .num (.t 19) (.c (.d (.i .i64 1))),
 .mv 5 (.t 20),
 .kill [19, 20]]))
def sl3Head_m : Fn := ⟨2, [.t 4], false,
 .seq (.r [.mv 4 (.c (.d (.i .i64 0))),
 .kill [4]])
 (.seq (.r [.mv 5 (.c (.d (.i .i64 0)))])
 (.seq (.blk 0 (.pre [.keep [5, 1, 0]] (.loop sl3Head_l0)))
 (.seq (.seq (.r [.mv 21 (.t 5),
 .mv 22 (.t 1),
 .lns 23 (.t 22),
 .bin 24 .eql .num (.t 21) (.t 23),
 .kill [21, 22, 23]])
 (.cond (.t 24)
 (.pre [.keep []] (.seq (.r [.mv 4 (.c (.d (.i .i64 400)))])
 (.ret)))
 (.pre [.kill [24]] (.skip))))
 (.seq (.post (.r [.an [70] [] [] [] (.mv 25 (.t 1)),
 .an [70] [] [] [] (.mv 26 (.t 5)),
 .an [70] [] [] [] (.slc 27 0 (.t 25) none (some (.t 26))),
 .an [70] [] [29064] [] (.call 28 true [] (.c (.clo sLower [])) [(.t 27)]),
 .an [70, 29064] [] [] [] (.mv 29 (.t 1)),
 .an [70, 29064] [] [] [] (.mv 30 (.t 5)),
 .an [70, 29064] [] [] [] (.bin 31 .add .num (.t 30) (.c (.d (.i .i64 1)))),
 .an [70, 29064] [] [] [] (.slc 32 0 (.t 29) (some (.t 31)) none),
 .an [70] [] [34064] [] (.call 33 true [] (.c (.clo sTrim [])) [(.t 32)]),
 .an [70] [] [] [] (.bd 34 [.d (.s []), .d (.s [])] [(0, 1, (.t 28)), (1, 1, (.t 33))]),
 .an [29064, 34064] [] [70] [] (.al 6 THead false),
 .an [] [] [] [70] (.st 2 (.t 6) (.t 34))]) [.keep [6, 0]])
 (.seq (.seq (.r [.fa 35 (.t 6) 0,
 .ld 36 1 false (.t 35),
 .call 37 true [] (.c (.clo sSmallName [])) [(.t 36)],
 .not 38 (.t 37),
 .mv 39 (.t 38),
 .gd 39 false (some 40) (.fa 40 (.t 6) 1),
 .gd 39 false (some 41) (.ld 41 1 false (.t 40)),
 .kill [35, 36, 37, 38, 40],
 .gd 39 false (some 42) (.call 42 true [] (.c (.clo sl3Val [])) [(.t 41)]),
 .gd 39 false (some 43) (.not 43 (.t 42)),
 .pick 44 (.t 39) (.c (.d (.b true))) (.t 43),
 .keep [44, 6, 0]])
 (.cond (.t 44)
 (.pre [.keep [], .drop [70]] (.seq (.r [.mv 4 (.c (.d (.i .i64 400)))])
 (.ret)))
 (.pre [.kill [44]] (.skip))))
 (.seq (.seq (.r [.fa 45 (.t 6) 0,
 .ld 46 1 false (.t 45),
 .kill [45]])
 (.blk 2 (.seq (.r [.bin 76 .eql .num (.t 46) (.c (.d (.s [99, 111, 110, 116, 101, 110, 116, 45, 108, 101, 110, 103, 116, 104]))),
 .mv 75 (.t 76),
 .kill [76]])
 (.cond (.t 75)
 (.pre [.kill [46, 75]] (.seq (.r [.fa 78 (.t 6) 1,
 .ld 79 1 false (.t 78),
 .call 80 true [] (.c (.clo sParseNum [])) [(.t 79), (.c (.d (.i .i64 9999999)))],
 .mv 77 (.t 80),
 .ext 81 (.t 77) 0,
 .ext 82 (.t 77) 1,
 .kill [6, 77, 78, 79, 80],
 .mv 7 (.t 81),
 .mv 8 (.t 82),
 .keep [8, 7, 0],
 .drop [70]])
 (.seq (.r [.mv 83 (.t 0),
 .mv 84 (.t 7),
 .nchk 85 (.t 83),
 .fa 86 (.t 85) 4,
 .st 1 (.t 86) (.t 84),
 .keep [8, 0]])
 (.seq (.r [.mv 87 (.t 0),
 .nchk 88 (.t 87),
 .fa 89 (.t 88) 5,
 .ld 90 1 false (.t 89),
 .bin 91 .add .num (.t 90) (.c (.d (.i .i64 1))),
 .nchk 92 (.t 87),
 .kill [0, 87, 88, 89, 90],
 .fa 93 (.t 92) 5,
 .st 1 (.t 93) (.t 91),
 .keep [8]])
 (.seq (.r [.mv 94 (.t 8),
 .not 95 (.t 94),
 .keep [95]])
 (.cond (.t 95)
 (.pre [.keep []] (.seq (.r [.mv 4 (.c (.d (.i .i64 400)))])
 (.ret)))
 (.pre [.keep []] (.skip))))))))
 (.pre [.kill [75]] (.seq (.r [.bin 97 .eql .num (.t 46) (.c (.d (.s [116, 114, 97, 110, 115, 102, 101, 114, 45, 101, 110, 99, 111, 100, 105, 110, 103]))),
 .mv 96 (.t 97),
 .kill [46, 97]])
 (.cond (.t 96)
 (.pre [.kill [96]] (.seq (.r [.mv 98 (.t 0),
 .nchk 99 (.t 98),
 .fa 100 (.t 99) 4,
 .st 1 (.t 100) (.c (.d (.i .i64 (-1)))),
 .keep [6, 0]])
 (.seq (.r [.mv 101 (.t 0),
 .nchk 102 (.t 101),
 .fa 103 (.t 102) 5,
 .ld 104 1 false (.t 103),
 .bin 105 .add .num (.t 104) (.c (.d (.i .i64 1))),
 .nchk 106 (.t 101),
 .fa 107 (.t 106) 5,
 .kill [101, 102, 103, 104, 106],
 .st 1 (.t 107) (.t 105),
 .keep [6, 0]])
 (.seq (.r [.fa 108 (.t 6) 1,
 .ld 109 1 false (.t 108),
 .call 110 true [] (.c (.clo sLower [])) [(.t 109)],
 .bin 111 .neq .num (.t 110) (.c (.d (.s [99, 104, 117, 110, 107, 101, 100]))),
 .keep [111, 0],
 .drop [70]])
 (.cond (.t 111)
 (.pre [.kill [111]] (.r [.mv 112 (.t 0),
 .mv 113 (.t 0),
 .nchk 114 (.t 113),
 .fa 115 (.t 114) 6,
 .ldm 116 (.t 115),
 .bs 117 (.int .i64) false 1 [.d (.i .i64 0)] [(0, (.c (.d (.i .i64 501))))],
 .app 118 (.int .i64) false 8 (.t 116) (.t 117),
 .kill [0, 113, 114, 115, 116, 117],
 .nchk 119 (.t 112),
 .fa 120 (.t 119) 6,
 .st 1 (.t 120) (.t 118),
 .keep [],
 .drop [180, 181, 182]]))
 (.pre [.keep []] (.skip)))))))
 (.pre [.kill [96]] (.seq (.post (.r [.an [116, 118, 119] [0] [] [] (.mv 47 (.t 0)),
 .an [118] [] [] [] (.mv 48 (.t 0)),
 .an [118] [] [] [] (.nchk 49 (.t 48)),
 .an [118] [] [] [] (.fa 50 (.t 49) 0),
 .an [118] [] [] [] (.fa 51 (.t 50) 2),
 .an [118] [] [116] [0] (.ldm 52 (.t 51)),
 .an [116] [0] [] [] (.ld 53 2 true (.t 6)),
 .an [116] [0] [118] [] (.bs 54 THead false 1 [.d (.s []), .d (.s [])] [(0, (.t 53))]),
 .an [] [] [116, 119] [0] (.app 55 THead false 32 (.t 52) (.t 54)),
 .nchk 56 (.t 47),
 .fa 57 (.t 56) 0,
 .fa 58 (.t 57) 2,
 .an [] [] [119] [0] (.st 1 (.t 58) (.t 55))]) [.keep [0], .drop [70, 116, 118, 119]])
 (.seq (.r [.mv 59 (.t 0),
 .nchk 60 (.t 59),
 .fa 61 (.t 60) 0,
 .fa 62 (.t 61) 2,
 .ld 63 1 false (.t 62),
 .len 64 (.t 63),
 .kill [59, 60, 61, 62, 63],
 .bin 65 .gtr .num (.t 64) (.c (.d (.i .i64 8))),
 .keep [65, 0]])
 (.cond (.t 65)
 (.pre [.kill [65]] (.r [.mv 66 (.t 0),
 .mv 67 (.t 0),
 .nchk 68 (.t 67),
 .fa 69 (.t 68) 6,
 .ldm 70 (.t 69),
 .bs 71 (.int .i64) false 1 [.d (.i .i64 0)] [(0, (.c (.d (.i .i64 431))))],
 .app 72 (.int .i64) false 8 (.t 70) (.t 71),
 .kill [0, 67, 68, 69, 70, 71],
 .nchk 73 (.t 66),
 .fa 74 (.t 73) 6,
 .st 1 (.t 74) (.t 72),
 .keep [],
 .drop [134, 135, 136]]))
 (.pre [.keep []] (.skip)))))))))))))
 (.seq (.r [.mv 4 (.c (.d (.i .i64 0)))])
 (.ret))))))))⟩
/-- live: [0, 1, 5, 6]; objects: [] -/
def sl3Least_l0 : C :=
 .seq (.seq (.r [.mv 13 (.t 6),
 .mv 14 (.t 0),
 .len 15 (.t 14),
 .bin 16 .lss .num (.t 13) (.t 15),
 .kill [13, 14, 15]])
 (.cond (.t 16)
 (.pre [.kill [16]] (.skip))
 (.pre [.kill [6, 16]] (.ex 2))))
 (.seq (.blk 3 (.seq (.post (.r [.mv 19 (.t 0),
 .mv 20 (.t 6),
 .ia 21 1 (.t 19) (.t 20),
 .ld 22 1 false (.t 21),
 .mv 23 (.t 1),
 .mv 24 (.t 5),
 .ia 25 1 (.t 23) (.t 24),
 .ld 26 1 false (.t 25),
 .bin 27 .eql .num (.t 22) (.t 26)]) [.keep [27, 6, 5, 1, 0]])
 (.cond (.t 27)
 (.pre [.keep [5, 1]] (.seq (.r [.mv 28 (.t 1),
 .mv 29 (.t 5),
 .ia 30 1 (.t 28) (.t 29),
 .ld 31 1 false (.t 30),
 .kill [1, 5, 28, 29, 30],
 .mv 4 (.t 31),
 .keep [4]])
 (.ret)))
 (.pre [.kill [27]] (.skip)))))
 (.r [.mv 17 (.t 6),
 .bin 18 .add .num (.t 17) (.c (.d (.i .i64 1))),
 .mv 6 (.t 18),
 .kill [17, 18]]))
/-- live: [0, 1, 5]; objects: [] -/
def sl3Least_l1 : C :=
 .seq (.seq (.r [.mv 7 (.t 5),
 .mv 8 (.t 1),
 .len 9 (.t 8),
 .bin 10 .lss .num (.t 7) (.t 9),
 .kill [7, 8, 9]])
 (.cond (.t 10)
 (.pre [.kill [10]] (.skip))
 (.pre [.keep []] (.ex 0))))
 (.seq (.blk 1 (.seq (.r [.mv 6 (.c (.d (.i .i64 0)))])
 (.blk 2 (.pre [.keep [6, 5, 1, 0]] (.loop sl3Least_l0)))))
 (.r [.mv 11 (.t 5),
 .bin 12 .add .num (.t 11) (.c (.d (.i .i64 1))),
 .mv 5 (.t 12),
 .kill [11, 12]]))
def sl3Least_m : Fn := ⟨2, [.t 4], false,
 .seq (.r [.mv 4 (.c (.d (.i .i64 0))),
 .kill [4]])
 (.seq (.seq (.r [.mv 5 (.c (.d (.i .i64 0)))])
 (.blk 0 (.pre [.keep [5, 1, 0]] (.loop sl3Least_l1))))
 (.seq (.r [.mv 4 (.c (.d (.i .i64 0)))])
 (.ret)))⟩
/-- live: [0, 1, 7]; objects: [] -/
def sl4Size_l0 : C :=
 .seq (.seq (.r [.mv 13 (.t 7),
 .mv 14 (.t 0),
 .len 15 (.t 14),
 .bin 16 .lss .num (.t 13) (.t 15),
 .mv 17 (.t 16),
 .gd 17 true (some 18) (.mv 18 (.t 7)),
 .gd 17 true (some 19) (.mv 19 (.t 1)),
 .gd 17 true (some 20) (.bin 20 .add .num (.t 19) (.c (.d (.i .i64 5)))),
 .kill [13, 14, 15, 16, 19],
 .gd 17 true (some 21) (.bin 21 .lss .num (.t 18) (.t 20)),
 .pick 22 (.t 17) (.t 21) (.c (.d (.b false))),
 .mv 23 (.t 22),
 .kill [17, 18, 20, 21, 22],
 .gd 23 true (some 24) (.mv 24 (.t 0)),
 .gd 23 true (some 25) (.mv 25 (.t 7)),
 .gd 23 true (some 26) (.ia 26 1 (.t 24) (.t 25)),
 .gd 23 true (some 27) (.ld 27 1 false (.t 26)),
 .gd 23 true (some 28) (.bin 28 .neq .num (.t 27) (.c (.d (.u 13)))),
 .pick 29 (.t 23) (.t 28) (.c (.d (.b false))),
 .keep [29, 7, 1, 0]])
 (.cond (.t 29)
 (.pre [.kill [29]] (.skip))
 (.pre [.kill [29]] (.ex 0))))
 (.blk 1 (.r [.mv 30 (.t 7),
 .bin 31 .add .num (.t 30) (.c (.d (.i .i64 1))),
 .mv 7 (.t 31),
 .kill [30, 31]]))
def sl4Size_m : Fn := ⟨2, [.t 4, .t 5, .t 6], false,
 .seq (.r [.mv 4 (.c (.d (.i .i64 0))),
 .mv 5 (.c (.d (.i .i64 0))),
 .mv 6 (.c (.d (.i .i64 0))),
 .keep [1, 0]])
 (.seq (.r [.mv 12 (.t 1),
 .mv 7 (.t 12),
 .kill [12]])
 (.seq (.blk 0 (.pre [.keep [7, 1, 0]] (.loop sl4Size_l0)))
 (.seq (.seq (.r [.mv 32 (.t 7),
 .mv 33 (.t 1),
 .bin 34 .add .num (.t 33) (.c (.d (.i .i64 5))),
 .bin 35 .eql .num (.t 32) (.t 34),
 .kill [32, 33, 34]])
 (.cond (.t 35)
 (.pre [.keep []] (.seq (.r [.mv 4 (.c (.d (.i .i64 0))),
 .mv 5 (.c (.d (.i .i64 0))),
 .mv 6 (.c (.d (.i .i64 400)))])
 (.ret)))
 (.pre [.kill [35]] (.skip))))
 (.seq (.seq (.r [.mv 36 (.t 7),
 .mv 37 (.t 0),
 .len 38 (.t 37),
 .bin 39 .lss .num (.t 36) (.t 38),
 .mv 40 (.t 39),
 .gd 40 false (some 41) (.mv 41 (.t 7)),
 .gd 40 false (some 42) (.mv 42 (.t 1)),
 .gd 40 false (some 43) (.bin 43 .gtr .num (.t 41) (.t 42)),
 .kill [36, 37, 38, 39, 41, 42],
 .pick 44 (.t 40) (.c (.d (.b true))) (.t 43),
 .keep [44, 7, 1, 0]])
 (.cond (.t 44)
 (.pre [.kill [44]] (.seq (.r [.mv 46 (.t 0),
 .mv 47 (.t 1),
 .mv 48 (.t 7),
 .slc 49 1 (.t 46) (some (.t 47)) (some (.t 48)),
 .b2s 50 (.t 49),
 .call 51 true [] (.c (.clo sParseHex [])) [(.t 50)],
 .kill [46, 47, 48, 49, 50],
 .mv 45 (.t 51),
 .ext 52 (.t 45) 0,
 .ext 53 (.t 45) 1,
 .mv 8 (.t 52),
 .mv 9 (.t 53),
 .keep [9, 7, 1, 0]])
 (.seq (.r [.mv 54 (.t 9),
 .not 55 (.t 54),
 .kill [9, 54]])
 (.cond (.t 55)
 (.pre [.keep []] (.seq (.r [.mv 4 (.c (.d (.i .i64 0))),
 .mv 5 (.c (.d (.i .i64 0))),
 .mv 6 (.c (.d (.i .i64 400)))])
 (.ret)))
 (.pre [.kill [55]] (.skip))))))
 (.pre [.kill [44]] (.skip))))
 (.seq (.seq (.r [.mv 56 (.t 7),
 .bin 57 .add .num (.t 56) (.c (.d (.i .i64 1))),
 .mv 58 (.t 0),
 .len 59 (.t 58),
 .bin 60 .geq .num (.t 57) (.t 59),
 .kill [56, 57, 58, 59]])
 (.cond (.t 60)
 (.pre [.keep []] (.seq (.r [.mv 4 (.c (.d (.i .i64 0))),
 .mv 5 (.c (.d (.i .i64 0))),
 .mv 6 (.c (.d (.i .i64 1)))])
 (.ret)))
 (.pre [.kill [60]] (.skip))))
 (.seq (.seq (.r [.mv 61 (.t 0),
 .mv 62 (.t 7),
 .bin 63 .add .num (.t 62) (.c (.d (.i .i64 1))),
 .ia 64 1 (.t 61) (.t 63),
 .ld 65 1 false (.t 64),
 .bin 66 .neq .num (.t 65) (.c (.d (.u 10))),
 .keep [66, 7, 1, 0]])
 (.cond (.t 66)
 (.pre [.keep []] (.seq (.r [.mv 4 (.c (.d (.i .i64 0))),
 .mv 5 (.c (.d (.i .i64 0))),
 .mv 6 (.c (.d (.i .i64 400)))])
 (.ret)))
 (.pre [.kill [66]] (.skip))))
 (.seq (.r [.mv 68 (.t 0),
 .mv 69 (.t 1),
 .mv 70 (.t 7),
 .slc 71 1 (.t 68) (some (.t 69)) (some (.t 70)),
 .kill [0, 1, 68, 69, 70],
 .b2s 72 (.t 71),
 .call 73 true [] (.c (.clo sParseHex [])) [(.t 72)],
 .mv 67 (.t 73),
 .ext 74 (.t 67) 0,
 .ext 75 (.t 67) 1,
 .mv 10 (.t 74),
 .kill [67, 71, 72, 73, 74],
 .mv 11 (.t 75),
 .keep [10, 7]])
 (.seq (.r [.mv 76 (.t 10),
 .mv 77 (.t 7),
 .bin 78 .add .num (.t 77) (.c (.d (.i .i64 2))),
 .mv 4 (.t 76),
 .mv 5 (.t 78),
 .kill [7, 10, 76, 77, 78],
 .mv 6 (.c (.d (.i .i64 0))),
 .keep [6, 5, 4]])
 (.ret)))))))))⟩
def sl4End_m : Fn := ⟨2, [.t 4], false,
 .seq (.r [.mv 4 (.c (.d (.i .i64 0))),
 .kill [4]])
 (.seq (.blk 0 (.seq (.r [.mv 6 (.t 1),
 .mv 7 (.t 0),
 .len 8 (.t 7),
 .bin 9 .geq .num (.t 6) (.t 8),
 .mv 5 (.t 9),
 .keep [5, 1, 0]])
 (.cond (.t 5)
 (.pre [.keep []] (.seq (.r [.mv 4 (.c (.d (.i .i64 1)))])
 (.ret)))
 (.pre [.kill [5]] (.seq (.r [.mv 11 (.t 0),
 .mv 12 (.t 1),
 .ia 13 1 (.t 11) (.t 12),
 .ld 14 1 false (.t 13),
 .bin 15 .neq .num (.t 14) (.c (.d (.u 13))),
 .mv 10 (.t 15),
 .keep [10, 1, 0]])
 (.cond (.t 10)
 (.pre [.keep []] (.seq (.r [.mv 4 (.c (.d (.i .i64 400)))])
 (.ret)))
 (.pre [.kill [10]] (.seq (.r [.mv 17 (.t 1),
 .bin 18 .add .num (.t 17) (.c (.d (.i .i64 1))),
 .mv 19 (.t 0),
 .len 20 (.t 19),
 .bin 21 .geq .num (.t 18) (.t 20),
 .mv 16 (.t 21),
 .keep [16, 1, 0]])
 (.cond (.t 16)
 (.pre [.keep []] (.seq (.r [.mv 4 (.c (.d (.i .i64 1)))])
 (.ret)))
 (.pre [.kill [16]] (.seq (.r [.mv 23 (.t 0),
 .mv 24 (.t 1),
 .bin 25 .add .num (.t 24) (.c (.d (.i .i64 1))),
 .ia 26 1 (.t 23) (.t 25),
 .kill [0, 1, 23, 24, 25],
 .ld 27 1 false (.t 26),
 .bin 28 .neq .num (.t 27) (.c (.d (.u 10))),
 .mv 22 (.t 28),
 .keep [22]])
 (.cond (.t 22)
 (.pre [.keep []] (.seq (.r [.mv 4 (.c (.d (.i .i64 400)))])
 (.ret)))
 (.pre [.keep []] (.skip))))))))))))))
 (.seq (.r [.mv 4 (.c (.d (.i .i64 0)))])
 (.ret)))⟩
/-- live: [0, 3, 4]; objects: [] -/
def sl3HeadsText_l0 : C :=
 .seq (.seq (.r [.mv 5 (.t 4),
 .mv 6 (.t 0),
 .len 7 (.t 6),
 .bin 8 .lss .num (.t 5) (.t 7),
 .kill [5, 6, 7]])
 (.cond (.t 8)
 (.pre [.kill [8]] (.skip))
 (.pre [.keep [3]] (.ex 0))))
 (.seq (.blk 1 (.post (.r [.mv 11 (.t 3),
 .mv 12 (.t 0),
 .mv 13 (.t 4),
 .ia 14 2 (.t 12) (.t 13),
 .fa 15 (.t 14) 0,
 .ld 16 1 false (.t 15),
 .bin 17 .add .num (.t 11) (.t 16),
 .bin 18 .add .num (.t 17) (.c (.d (.s [58, 32]))),
 .mv 19 (.t 0),
 .mv 20 (.t 4),
 .ia 21 2 (.t 19) (.t 20),
 .fa 22 (.t 21) 1,
 .ld 23 1 false (.t 22),
 .bin 24 .add .num (.t 18) (.t 23),
 .bin 25 .add .num (.t 24) (.c (.d (.s [13, 10]))),
 .mv 3 (.t 25)]) [.keep [4, 3, 0]]))
 (.r [.mv 9 (.t 4),
 .bin 10 .add .num (.t 9) (.c (.d (.i .i64 1))),
 .mv 4 (.t 10),
 .kill [9, 10]]))
def sl3HeadsText_m : Fn := ⟨1, [.t 2], false,
 .seq (.r [.mv 2 (.c (.d (.s []))),
 .kill [2]])
 (.seq (.r [.mv 3 (.c (.d (.s [])))])
 (.seq (.seq (.r [.mv 4 (.c (.d (.i .i64 0)))])
 (.blk 0 (.pre [.keep [4, 3, 0]] (.loop sl3HeadsText_l0))))
 (.seq (.r [.mv 26 (.t 3),
 .mv 2 (.t 26),
 .keep [2]])
 (.ret))))⟩
def sReqOk_m : Fn := ⟨1, [.t 2], false,
 .seq (.r [.bx 1 TReq true (.t 0),
 .mv 2 (.c (.d (.b false))),
 .keep [1]])
 (.seq (.r [.fa 3 (.t 1) 0,
 .ld 4 1 false (.t 3),
 .call 5 true [] (.c (.clo sl3Method [])) [(.t 4)],
 .mv 6 (.t 5),
 .gd 6 true (some 7) (.fa 7 (.t 1) 1),
 .gd 6 true (some 8) (.ld 8 1 false (.t 7)),
 .gd 6 true (some 9) (.call 9 true [] (.c (.clo sl3Target [])) [(.t 8)]),
 .kill [3, 4, 5, 7, 8],
 .pick 10 (.t 6) (.t 9) (.c (.d (.b false))),
 .mv 11 (.t 10),
 .gd 11 true (some 12) (.fa 12 (.t 1) 2),
 .gd 11 true (some 13) (.ld 13 1 false (.t 12)),
 .gd 11 true (some 14) (.call 14 true [] (.c (.clo sl3Heads [])) [(.t 13)]),
 .kill [6, 9, 10, 12, 13],
 .pick 15 (.t 11) (.t 14) (.c (.d (.b false))),
 .mv 16 (.t 15),
 .gd 16 true (some 17) (.fa 17 (.t 1) 3),
 .gd 16 true (some 18) (.ld 18 1 false (.t 17)),
 .kill [1, 11, 14, 15, 17],
 .gd 16 true (some 19) (.lns 19 (.t 18)),
 .gd 16 true (some 20) (.bin 20 .leq .num (.t 19) (.c (.d (.i .i64 200)))),
 .pick 21 (.t 16) (.t 20) (.c (.d (.b false))),
 .mv 2 (.t 21),
 .keep [2],
 .drop [65]])
 (.ret))⟩
def iNumText_m : Fn := ⟨1, [.t 2], false,
 .seq (.r [.mv 2 (.c (.d (.s []))),
 .kill [2]])
 (.seq (.r [.mv 3 (.t 0),
 .mm 4 true (.t 3) (.c (.d (.i .i64 0))),
 .call 5 true [] (.c (.clo x_strconv_Itoa [])) [(.t 4)],
 .mv 2 (.t 5),
 .keep [2]])
 (.ret))⟩
def iReqOk_m : Fn := ⟨1, [.t 2], false,
 .seq (.r [.bx 1 TReq true (.t 0),
 .mv 2 (.c (.d (.b false))),
 .keep [1]])
 (.seq (.r [.fa 3 (.t 1) 0,
 .ld 4 1 false (.t 3),
 .fa 5 (.t 1) 1,
 .ld 6 1 false (.t 5),
 .call 7 true [] (.c (.clo ilineOk [])) [(.t 4), (.t 6)],
 .mv 8 (.t 7),
 .kill [3, 4, 5, 6, 7],
 .gd 8 true (some 9) (.fa 9 (.t 1) 2),
 .gd 8 true (some 10) (.ld 10 1 false (.t 9)),
 .gd 8 true (some 11) (.call 11 true [] (.c (.clo iheadsOk [])) [(.t 10)]),
 .pick 12 (.t 8) (.t 11) (.c (.d (.b false))),
 .mv 13 (.t 12),
 .kill [8, 9, 10, 11, 12],
 .gd 13 true (some 14) (.fa 14 (.t 1) 3),
 .gd 13 true (some 15) (.ld 15 1 false (.t 14)),
 .gd 13 true (some 16) (.lns 16 (.t 15)),
 .gd 13 true (some 17) (.bin 17 .leq .num (.t 16) (.c (.d (.i .i64 200)))),
 .pick 18 (.t 13) (.t 17) (.c (.d (.b false))),
 .kill [1, 13, 14, 15, 16, 17],
 .mv 2 (.t 18),
 .keep [2],
 .drop [65]])
 (.ret))⟩
/-- live: [3, 6, 7, 8]; objects: [] -/
def iheadText_l0 : C :=
 .seq (.r [.bin 9 .lss .num (.t 8) (.t 7)])
 (.seq (.cond (.t 9)
 (.pre [.kill [9]] (.skip))
 (.pre [.keep [3]] (.ex 0)))
 (.seq (.blk 1 (.seq (.r [.ia 10 2 (.t 6) (.t 8),
 .ld 11 2 true (.t 10),
 .al 5 THead false,
 .st 2 (.t 5) (.t 11),
 .kill [10, 11]])
 (.r [.mv 12 (.t 3),
 .fa 13 (.t 5) 0,
 .ld 14 1 false (.t 13),
 .bin 15 .add .num (.t 14) (.c (.d (.s [58, 32]))),
 .fa 16 (.t 5) 1,
 .ld 17 1 false (.t 16),
 .kill [3, 5, 13, 14, 16],
 .bin 18 .add .num (.t 15) (.t 17),
 .bin 19 .add .num (.t 18) (.c (.d (.s [13, 10]))),
 .bin 20 .add .num (.t 12) (.t 19),
 .kill [12, 15, 17, 18, 19],
 .mv 3 (.t 20),
 .keep [8, 7, 6, 3],
 .drop [69]])))
 (.r [.bin 21 .add .num (.t 8) (.c (.d (.i .i64 1))),
 .mv 8 (.t 21),
 .kill [21]])))
def iheadText_m : Fn := ⟨1, [.t 2], false,
 .seq (.r [.mv 2 (.c (.d (.s []))),
 .kill [2]])
 (.seq (.r [.mv 3 (.c (.d (.s [])))])
 (.seq (.seq (.r [.mv 6 (.t 0),
 .len 7 (.t 6),
 .mv 8 (.c (.d (.i .i64 0))),
 .kill [0]])
 (.blk 0 (.pre [.keep [8, 7, 6, 3]] (.loop iheadText_l0))))
 (.seq (.r [.mv 22 (.t 3),
 .mv 2 (.t 22),
 .keep [2]])
 (.ret))))⟩
def iisLarge_m : Fn := ⟨1, [.t 2], false,
 .seq (.r [.mv 2 (.c (.d (.b false))),
 .kill [2]])
 (.seq (.r [.mv 3 (.t 0),
 .bin 4 .geq .num (.t 3) (.c (.d (.u 65))),
 .mv 5 (.t 4),
 .gd 5 true (some 6) (.mv 6 (.t 0)),
 .gd 5 true (some 7) (.bin 7 .leq .num (.t 6) (.c (.d (.u 90)))),
 .pick 8 (.t 5) (.t 7) (.c (.d (.b false))),
 .kill [0, 3, 4, 5, 6, 7],
 .mv 2 (.t 8),
 .keep [2]])
 (.ret))⟩
/-- live: [0, 3]; objects: [] -/
def iPlain_l0 : C :=
 .seq (.seq (.r [.mv 4 (.t 3),
 .mv 5 (.t 0),
 .lns 6 (.t 5),
 .bin 7 .lss .num (.t 4) (.t 6),
 .kill [4, 5, 6]])
 (.cond (.t 7)
 (.pre [.kill [7]] (.skip))
 (.pre [.keep []] (.ex 0))))
 (.seq (.blk 1 (.seq (.r [.mv 10 (.t 0),
 .mv 11 (.t 3),
 .ix 12 (.t 10) (.t 11),
 .call 13 true [] (.c (.clo iisPlain [])) [(.t 12)],
 .not 14 (.t 13),
 .keep [14, 3, 0]])
 (.cond (.t 14)
 (.pre [.keep []] (.seq (.r [.mv 2 (.c (.d (.b false)))])
 (.ret)))
 (.pre [.kill [14]] (.skip)))))
 (.r [.mv 8 (.t 3),
 .bin 9 .add .num (.t 8) (.c (.d (.i .i64 1))),
 .mv 3 (.t 9),
 .kill [8, 9]]))
def iPlain_m : Fn := ⟨1, [.t 2], false,
 .seq (.r [.mv 2 (.c (.d (.b false))),
 .kill [2]])
 (.seq (.seq (.r [.mv 3 (.c (.d (.i .i64 0)))])
 (.blk 0 (.pre [.keep [3, 0]] (.loop iPlain_l0))))
 (.seq (.r [.mv 2 (.c (.d (.b true)))])
 (.ret)))⟩
def iTrim_m : Fn := ⟨1, [.t 2], false,
 .seq (.r [.mv 2 (.c (.d (.s []))),
 .kill [2]])
 (.seq (.r [.mv 3 (.t 0),
 .call 4 true [] (.c (.clo x_strings_Trim [])) [(.t 3), (.c (.d (.s [32, 9])))],
 .mv 2 (.t 4),
 .keep [2]])
 (.ret))⟩
/-- live: [0, 3]; objects: [] -/
def iSmallName_l0 : C :=
 .seq (.seq (.r [.mv 4 (.t 3),
 .mv 5 (.t 0),
 .lns 6 (.t 5),
 .bin 7 .lss .num (.t 4) (.t 6),
 .kill [4, 5, 6]])
 (.cond (.t 7)
 (.pre [.kill [7]] (.skip))
 (.pre [.keep [0]] (.ex 0))))
 (.seq (.blk 1 (.seq (.r [.mv 10 (.t 0),
 .mv 11 (.t 3),
 .ix 12 (.t 10) (.t 11),
 .call 13 true [] (.c (.clo iisSmall [])) [(.t 12)],
 .not 14 (.t 13),
 .mv 15 (.t 14),
 .kill [10, 11, 12, 13, 14],
 .gd 15 true (some 16) (.mv 16 (.t 3)),
 .gd 15 true (some 17) (.bin 17 .eql .num (.t 16) (.c (.d (.i .i64 0)))),
 .gd 15 true (some 18) (.mv 18 (.t 17)),
 .gd 18 false (some 19) (.mv 19 (.t 0)),
 .gd 18 false (some 20) (.mv 20 (.t 3)),
 .gd 18 false (some 21) (.ix 21 (.t 19) (.t 20)),
 .gd 18 false (some 22) (.call 22 true [] (.c (.clo iisDigit [])) [(.t 21)]),
 .kill [16, 17, 19, 20, 21],
 .gd 18 false (some 23) (.not 23 (.t 22)),
 .gd 18 false (some 24) (.mv 24 (.t 23)),
 .gd 24 true (some 25) (.mv 25 (.t 0)),
 .gd 24 true (some 26) (.mv 26 (.t 3)),
 .gd 24 true (some 27) (.ix 27 (.t 25) (.t 26)),
 .gd 24 true (some 28) (.bin 28 .neq .num (.t 27) (.c (.d (.u 45)))),
 .kill [22, 23, 25, 26, 27],
 .gd 18 false (some 29) (.pick 29 (.t 24) (.t 28) (.c (.d (.b false)))),
 .gd 15 true (some 30) (.pick 30 (.t 18) (.c (.d (.b true))) (.t 29)),
 .pick 31 (.t 15) (.t 30) (.c (.d (.b false))),
 .keep [31, 3, 0]])
 (.cond (.t 31)
 (.pre [.keep []] (.seq (.r [.mv 2 (.c (.d (.b false)))])
 (.ret)))
 (.pre [.kill [31]] (.skip)))))
 (.r [.mv 8 (.t 3),
 .bin 9 .add .num (.t 8) (.c (.d (.i .i64 1))),
 .mv 3 (.t 9),
 .kill [8, 9]]))
def iSmallName_m : Fn := ⟨1, [.t 2], false,
 .seq (.r [.mv 2 (.c (.d (.b false))),
 .kill [2]])
 (.seq (.seq (.r [.mv 3 (.c (.d (.i .i64 0)))])
 (.blk 0 (.pre [.keep [3, 0]] (.loop iSmallName_l0))))
 (.seq (.r [.mv 32 (.t 0),
 .lns 33 (.t 32),
 .call 34 true [] (.c (.clo iin [])) [(.t 33), (.c (.d (.i .i64 1))), (.c (.d (.i .i64 20)))],
 .mv 2 (.t 34),
 .keep [2]])
 (.ret)))⟩
def ivalOk_m : Fn := ⟨1, [.t 2], false,
 .seq (.r [.mv 2 (.c (.d (.b false))),
 .kill [2]])
 (.seq (.r [.mv 3 (.t 0),
 .lns 4 (.t 3),
 .bin 5 .leq .num (.t 4) (.c (.d (.i .i64 60))),
 .mv 6 (.t 5),
 .gd 6 true (some 7) (.mv 7 (.t 0)),
 .gd 6 true (some 8) (.call 8 true [] (.c (.clo iPlain [])) [(.t 7)]),
 .pick 9 (.t 6) (.t 8) (.c (.d (.b false))),
 .kill [3, 4, 5, 6, 7, 8],
 .mv 10 (.t 9),
 .gd 10 true (some 11) (.mv 11 (.t 0)),
 .gd 10 true (some 12) (.call 12 true [] (.c (.clo iTrim [])) [(.t 11)]),
 .gd 10 true (some 13) (.mv 13 (.t 0)),
 .gd 10 true (some 14) (.bin 14 .eql .num (.t 12) (.t 13)),
 .kill [0, 9, 11, 12, 13],
 .pick 15 (.t 10) (.t 14) (.c (.d (.b false))),
 .mv 2 (.t 15),
 .keep [2]])
 (.ret))⟩
def ireqHead_special_m : Fn := ⟨3, [], false,
 .seq (.seq (.r [.mv 8 (.t 0),
 .nchk 9 (.t 8),
 .fa 10 (.t 9) 5,
 .ld 11 1 false (.t 10),
 .mv 12 (.t 11),
 .gd 12 false (some 13) (.mv 13 (.t 0)),
 .gd 12 false (some 14) (.nchk 14 (.t 13)),
 .kill [8, 9, 10, 11, 13],
 .gd 12 false (some 15) (.fa 15 (.t 14) 7),
 .gd 12 false (some 16) (.ld 16 1 false (.t 15)),
 .pick 17 (.t 12) (.c (.d (.b true))) (.t 16),
 .keep [17, 2, 1, 0]])
 (.cond (.t 17)
 (.pre [.keep [0]] (.seq (.r [.mv 18 (.t 0),
 .nchk 19 (.t 18),
 .fa 20 (.t 19) 8,
 .st 1 (.t 20) (.c (.d (.b true))),
 .keep []])
 (.ret)))
 (.pre [.kill [17]] (.skip))))
 (.seq (.seq (.r [.mv 21 (.t 1),
 .bin 22 .eql .num (.t 21) (.c (.d (.s [116, 114, 97, 110, 115, 102, 101, 114, 45, 101, 110, 99, 111, 100, 105, 110, 103]))),
 .kill [1, 21]])
 (.cond (.t 22)
 (.pre [.kill [22]] (.seq (.r [.mv 23 (.t 0),
 .mv 24 (.t 0),
 .mv 25 (.t 2),
 .nchk 26 (.t 23),
 .fa 27 (.t 26) 5,
 .st 1 (.t 27) (.c (.d (.b true))),
 .kill [0, 2, 23, 26, 27],
 .nchk 28 (.t 24),
 .fa 29 (.t 28) 4,
 .st 1 (.t 29) (.t 25),
 .keep []])
 (.ret)))
 (.pre [.kill [22]] (.skip))))
 (.seq (.r [.mv 31 (.t 2),
 .call 32 true [] (.c (.clo iParseNum [])) [(.t 31), (.c (.d (.i .i64 9999999)))],
 .mv 30 (.t 32),
 .ext 33 (.t 30) 0,
 .ext 34 (.t 30) 1,
 .mv 6 (.t 33),
 .kill [2, 30, 31, 32, 33],
 .mv 7 (.t 34),
 .keep [7, 6, 0]])
 (.seq (.r [.mv 35 (.t 0),
 .mv 36 (.t 0),
 .mv 37 (.t 6),
 .nchk 38 (.t 35),
 .fa 39 (.t 38) 7,
 .st 1 (.t 39) (.c (.d (.b true))),
 .nchk 40 (.t 36),
 .kill [6, 35, 36, 38, 39],
 .fa 41 (.t 40) 6,
 .st 1 (.t 41) (.t 37),
 .keep [7, 0]])
 (.r [.mv 42 (.t 0),
 .mv 43 (.t 0),
 .nchk 44 (.t 43),
 .fa 45 (.t 44) 8,
 .ld 46 1 false (.t 45),
 .mv 47 (.t 46),
 .kill [0, 43, 44, 45, 46],
 .gd 47 false (some 48) (.mv 48 (.t 7)),
 .gd 47 false (some 49) (.not 49 (.t 48)),
 .pick 50 (.t 47) (.c (.d (.b true))) (.t 49),
 .nchk 51 (.t 42),
 .kill [7, 42, 47, 48, 49],
 .fa 52 (.t 51) 8,
 .st 1 (.t 52) (.t 50),
 .keep []]))))⟩
/-- live: [0, 4, 5]; objects: [] -/
def iParseHex_l0 : C :=
 .seq (.seq (.r [.mv 7 (.t 5),
 .mv 8 (.t 0),
 .lns 9 (.t 8),
 .bin 10 .lss .num (.t 7) (.t 9),
 .kill [7, 8, 9]])
 (.cond (.t 10)
 (.pre [.kill [10]] (.skip))
 (.pre [.kill [5, 10]] (.ex 0))))
 (.seq (.blk 1 (.seq (.r [.mv 13 (.t 0),
 .mv 14 (.t 5),
 .ix 15 (.t 13) (.t 14),
 .call 16 true [] (.c (.clo idigitOf [])) [(.t 15)],
 .mv 6 (.t 16),
 .kill [13, 14, 15, 16]])
 (.seq (.seq (.r [.mv 17 (.t 6),
 .bin 18 .lss .num (.t 17) (.c (.d (.i .i64 0))),
 .mv 19 (.t 18),
 .gd 19 false (some 20) (.mv 20 (.t 5)),
 .gd 19 false (some 21) (.bin 21 .geq .num (.t 20) (.c (.d (.i .i64 4)))),
 .pick 22 (.t 19) (.c (.d (.b true))) (.t 21),
 .kill [17, 18, 19, 20, 21]])
 (.cond (.t 22)
 (.pre [.keep []] (.seq (.r [.mv 2 (.c (.d (.i .i64 0))),
 .mv 3 (.c (.d (.b false)))])
 (.ret)))
 (.pre [.kill [22]] (.skip))))
 (.r [.mv 23 (.t 4),
 .bin 24 .mul .num (.c (.d (.i .i64 16))) (.t 23),
 .mv 25 (.t 6),
 .bin 26 .add .num (.t 24) (.t 25),
 .kill [4, 6, 23, 24, 25],
 .mv 4 (.t 26),
 .keep [5, 4, 0]]))))
 (.r [.mv 11 (.t 5),
 .bin 12 .add .num (.t 11) (.c (.d (.i .i64 1))),
 .mv 5 (.t 12),
 .kill [11, 12]]))
def iParseHex_m : Fn := ⟨1, [.t 2, .t 3], false,
 .seq (.r [.mv 2 (.c (.d (.i .i64 0))),
 .mv 3 (.c (.d (.b false))),
 .keep [0]])
 (.seq (.r [.mv 4 (.c (.d (.i .i64 0)))])
 (.seq (.seq (.r [.mv 5 (.c (.d (.i .i64 0)))])
 (.blk 0 (.pre [.keep [5, 4, 0]] (.loop iParseHex_l0))))
 (.seq (.r [.mv 27 (.t 4),
 .mv 28 (.t 0),
 .bin 29 .neq .num (.t 28) (.c (.d (.s []))),
 .mv 2 (.t 27),
 .mv 3 (.t 29),
 .keep [3, 2]])
 (.ret))))⟩
/-- live: [0, 1, 5, 6, 7]; objects: [69] -/
def sl2Split_l0 : C :=
 .seq (.seq (.r [.mv 9 (.t 7),
 .mv 10 (.t 0),
 .lns 11 (.t 10),
 .bin 12 .leq .num (.t 9) (.t 11),
 .kill [9, 10, 11]])
 (.cond (.t 12)
 (.pre [.kill [12]] (.skip))
 (.pre [.keep [5]] (.ex 0))))
 (.seq (.blk 1 (.seq (.r [.mv 15 (.t 7),
 .mv 16 (.t 0),
 .lns 17 (.t 16),
 .bin 18 .eql .num (.t 15) (.t 17),
 .mv 19 (.t 18),
 .gd 19 false (some 20) (.mv 20 (.t 0)),
 .gd 19 false (some 21) (.mv 21 (.t 7)),
 .gd 19 false (some 22) (.ix 22 (.t 20) (.t 21)),
 .kill [15, 16, 17, 18, 20, 21],
 .gd 19 false (some 23) (.mv 23 (.t 1)),
 .gd 19 false (some 24) (.bin 24 .eql .num (.t 22) (.t 23)),
 .pick 25 (.t 19) (.c (.d (.b true))) (.t 24),
 .keep [25, 7, 6, 5, 1, 0]])
 (.cond (.t 25)
 (.pre [.kill [25]] (.seq (.r [.mv 26 (.t 5),
 .mv 27 (.t 0),
 .mv 28 (.t 6),
 .mv 29 (.t 7),
 .slc 30 0 (.t 27) (some (.t 28)) (some (.t 29)),
 .kill [5, 6, 27, 28, 29],
 .bs 31 .str false 1 [.d (.s [])] [(0, (.t 30))],
 .app 32 .str false 16 (.t 26) (.t 31),
 .mv 5 (.t 32),
 .ren 96 69,
 .keep [7, 5, 1, 0],
 .drop [95, 96]])
 (.r [.mv 33 (.t 7),
 .bin 34 .add .num (.t 33) (.c (.d (.i .i64 1))),
 .mv 6 (.t 34),
 .kill [33, 34]])))
 (.pre [.kill [25]] (.skip)))))
 (.r [.mv 13 (.t 7),
 .bin 14 .add .num (.t 13) (.c (.d (.i .i64 1))),
 .mv 7 (.t 14),
 .kill [13, 14]]))
def sl2Split_m : Fn := ⟨2, [.t 4], false,
 .seq (.r [.mv 4 (.c (.nil .str)),
 .opn 4 4 false,
 .kill [4],
 .drop [68]])
 (.seq (.r [.bs 8 .str false 0 [.d (.s [])] [],
 .mv 5 (.t 8),
 .ren 72 69,
 .kill [8],
 .drop [72]])
 (.seq (.r [.mv 6 (.c (.d (.i .i64 0)))])
 (.seq (.seq (.r [.mv 7 (.c (.d (.i .i64 0)))])
 (.blk 0 (.pre [.keep [7, 6, 5, 1, 0]] (.loop sl2Split_l0))))
 (.seq (.r [.mv 35 (.t 5),
 .mv 4 (.t 35),
 .ren 69 68,
 .keep [4],
 .drop [69]])
 (.ret)))))⟩
/-- live: [0, 3]; objects: [] -/
def sl3Method_l0 : C :=
 .seq (.seq (.r [.mv 4 (.t 3),
 .mv 5 (.t 0),
 .lns 6 (.t 5),
 .bin 7 .lss .num (.t 4) (.t 6),
 .kill [4, 5, 6]])
 (.cond (.t 7)
 (.pre [.kill [7]] (.skip))
 (.pre [.keep [0]] (.ex 0))))
 (.seq (.blk 1 (.seq (.r [.mv 10 (.t 0),
 .mv 11 (.t 3),
 .ix 12 (.t 10) (.t 11),
 .call 13 true [] (.c (.clo sl1Large [])) [(.t 12)],
 .not 14 (.t 13),
 .keep [14, 3, 0]])
 (.cond (.t 14)
 (.pre [.keep []] (.seq (.r [.mv 2 (.c (.d (.b false)))])
 (.ret)))
 (.pre [.kill [14]] (.skip)))))
 (.r [.mv 8 (.t 3),
 .bin 9 .add .num (.t 8) (.c (.d (.i .i64 1))),
 .mv 3 (.t 9),
 .kill [8, 9]]))
def sl3Method_m : Fn := ⟨1, [.t 2], false,
 .seq (.r [.mv 2 (.c (.d (.b false))),
 .kill [2]])
 (.seq (.seq (.r [.mv 3 (.c (.d (.i .i64 0)))])
 (.blk 0 (.pre [.keep [3, 0]] (.loop sl3Method_l0))))
 (.seq (.r [.mv 15 (.t 0),
 .lns 16 (.t 15),
 .call 17 true [] (.c (.clo sl1In [])) [(.t 16), (.c (.d (.i .i64 1))), (.c (.d (.i .i64 9)))],
 .mv 2 (.t 17),
 .keep [2]])
 (.ret)))⟩
/-- live: [0, 3]; objects: [] -/
def sl3Target_l0 : C :=
 .seq (.seq (.r [.mv 4 (.t 3),
 .mv 5 (.t 0),
 .lns 6 (.t 5),
 .bin 7 .lss .num (.t 4) (.t 6),
 .kill [4, 5, 6]])
 (.cond (.t 7)
 (.pre [.kill [7]] (.skip))
 (.pre [.keep [0]] (.ex 0))))
 (.seq (.blk 1 (.seq (.r [.mv 10 (.t 0),
 .mv 11 (.t 3),
 .ix 12 (.t 10) (.t 11),
 .cvi 13 .i64 (.t 12),
 .call 14 true [] (.c (.clo sl1In [])) [(.t 13), (.c (.d (.i .i64 33))), (.c (.d (.i .i64 126)))],
 .not 15 (.t 14),
 .keep [15, 3, 0]])
 (.cond (.t 15)
 (.pre [.keep []] (.seq (.r [.mv 2 (.c (.d (.b false)))])
 (.ret)))
 (.pre [.kill [15]] (.skip)))))
 (.r [.mv 8 (.t 3),
 .bin 9 .add .num (.t 8) (.c (.d (.i .i64 1))),
 .mv 3 (.t 9),
 .kill [8, 9]]))
def sl3Target_m : Fn := ⟨1, [.t 2], false,
 .seq (.r [.mv 2 (.c (.d (.b false))),
 .kill [2]])
 (.seq (.seq (.r [.mv 3 (.c (.d (.i .i64 0)))])
 (.blk 0 (.pre [.keep [3, 0]] (.loop sl3Target_l0))))
 (.seq (.r [.mv 16 (.t 0),
 .lns 17 (.t 16),
 .call 18 true [] (.c (.clo sl1In [])) [(.t 17), (.c (.d (.i .i64 1))), (.c (.d (.i .i64 80)))],
 .mv 2 (.t 18),
 .keep [2]])
 (.ret)))⟩
/-- live: [0, 3, 4]; objects: [67] -/
def sLower_l0 : C :=
 .seq (.seq (.r [.mv 7 (.t 4),
 .mv 8 (.t 0),
 .lns 9 (.t 8),
 .bin 10 .lss .num (.t 7) (.t 9),
 .kill [7, 8, 9]])
 (.cond (.t 10)
 (.pre [.kill [10]] (.skip))
 (.pre [.keep [3]] (.ex 0))))
 (.seq (.blk 1 (.seq (.r [.mv 13 (.t 0),
 .mv 14 (.t 4),
 .ix 15 (.t 13) (.t 14),
 .mv 5 (.t 15),
 .kill [13, 14, 15]])
 (.seq (.seq (.r [.mv 16 (.t 5),
 .call 17 true [] (.c (.clo sl1Large [])) [(.t 16)],
 .kill [16]])
 (.cond (.t 17)
 (.pre [.kill [17]] (.r [.mv 18 (.t 5),
 .bin 19 .add .num (.t 18) (.c (.d (.u 32))),
 .mv 5 (.t 19),
 .kill [18, 19]]))
 (.pre [.kill [17]] (.skip))))
 (.r [.mv 20 (.t 3),
 .mv 21 (.t 5),
 .bs 22 .u8 false 1 [.d (.u 0)] [(0, (.t 21))],
 .app 23 .u8 false 1 (.t 20) (.t 22),
 .kill [3, 5, 20, 21, 22],
 .mv 3 (.t 23),
 .ren 87 67,
 .keep [4, 3, 0],
 .drop [86, 87]]))))
 (.r [.mv 11 (.t 4),
 .bin 12 .add .num (.t 11) (.c (.d (.i .i64 1))),
 .mv 4 (.t 12),
 .kill [11, 12]]))
def sLower_m : Fn := ⟨1, [.t 2], false,
 .seq (.r [.mv 2 (.c (.d (.s []))),
 .kill [2]])
 (.seq (.r [.bs 6 .u8 false 0 [.d (.u 0)] [],
 .mv 3 (.t 6),
 .ren 70 67,
 .kill [6],
 .drop [70]])
 (.seq (.seq (.r [.mv 4 (.c (.d (.i .i64 0)))])
 (.blk 0 (.pre [.keep [4, 3, 0]] (.loop sLower_l0))))
 (.seq (.r [.mv 24 (.t 3),
 .b2s 25 (.t 24),
 .mv 2 (.t 25),
 .keep [2],
 .drop [67]])
 (.ret))))⟩
/-- live: [0]; objects: [] -/
def sTrim_l0 : C :=
 .seq (.seq (.r [.mv 3 (.t 0),
 .lns 4 (.t 3),
 .bin 5 .gtr .num (.t 4) (.c (.d (.i .i64 0))),
 .mv 6 (.t 5),
 .gd 6 true (some 7) (.mv 7 (.t 0)),
 .gd 6 true (some 8) (.ix 8 (.t 7) (.c (.d (.i .i64 0)))),
 .gd 6 true (some 9) (.call 9 true [] (.c (.clo sl1Blank [])) [(.t 8)]),
 .kill [3, 4, 5, 7, 8],
 .pick 10 (.t 6) (.t 9) (.c (.d (.b false))),
 .keep [10, 0]])
 (.cond (.t 10)
 (.pre [.kill [10]] (.skip))
 (.pre [.kill [10]] (.ex 0))))
 (.blk 1 (.r [.mv 11 (.t 0),
 .slc 12 0 (.t 11) (some (.c (.d (.i .i64 1)))) none,
 .mv 0 (.t 12),
 .keep [0]]))
/-- live: [0]; objects: [] -/
def sTrim_l1 : C :=
 .seq (.seq (.r [.mv 13 (.t 0),
 .lns 14 (.t 13),
 .bin 15 .gtr .num (.t 14) (.c (.d (.i .i64 0))),
 .mv 16 (.t 15),
 .gd 16 true (some 17) (.mv 17 (.t 0)),
 .gd 16 true (some 18) (.mv 18 (.t 0)),
 .gd 16 true (some 19) (.lns 19 (.t 18)),
 .gd 16 true (some 20) (.bin 20 .sub .num (.t 19) (.c (.d (.i .i64 1)))),
 .kill [13, 14, 15, 18, 19],
 .gd 16 true (some 21) (.ix 21 (.t 17) (.t 20)),
 .gd 16 true (some 22) (.call 22 true [] (.c (.clo sl1Blank [])) [(.t 21)]),
 .pick 23 (.t 16) (.t 22) (.c (.d (.b false))),
 .keep [23, 0]])
 (.cond (.t 23)
 (.pre [.kill [23]] (.skip))
 (.pre [.kill [23]] (.ex 2))))
 (.blk 3 (.r [.mv 24 (.t 0),
 .mv 25 (.t 0),
 .lns 26 (.t 25),
 .bin 27 .sub .num (.t 26) (.c (.d (.i .i64 1))),
 .slc 28 0 (.t 24) none (some (.t 27)),
 .kill [0, 24, 25, 26, 27],
 .mv 0 (.t 28),
 .keep [0]]))
def sTrim_m : Fn := ⟨1, [.t 2], false,
 .seq (.r [.mv 2 (.c (.d (.s []))),
 .kill [2]])
 (.seq (.blk 0 (.pre [.keep [0]] (.loop sTrim_l0)))
 (.seq (.blk 2 (.pre [.keep [0]] (.loop sTrim_l1)))
 (.seq (.r [.mv 29 (.t 0),
 .mv 2 (.t 29),
 .keep [2]])
 (.ret))))⟩
/-- live: [0, 3]; objects: [] -/
def sSmallName_l0 : C :=
 .seq (.seq (.r [.mv 4 (.t 3),
 .mv 5 (.t 0),
 .lns 6 (.t 5),
 .bin 7 .lss .num (.t 4) (.t 6),
 .kill [4, 5, 6]])
 (.cond (.t 7)
 (.pre [.kill [7]] (.skip))
 (.pre [.keep [0]] (.ex 0))))
 (.seq (.blk 1 (.seq (.r [.mv 10 (.t 0),
 .mv 11 (.t 3),
 .ix 12 (.t 10) (.t 11),
 .call 13 true [] (.c (.clo sl1Small [])) [(.t 12)],
 .not 14 (.t 13),
 .mv 15 (.t 14),
 .kill [10, 11, 12, 13, 14],
 .gd 15 true (some 16) (.mv 16 (.t 3)),
 .gd 15 true (some 17) (.bin 17 .eql .num (.t 16) (.c (.d (.i .i64 0)))),
 .gd 15 true (some 18) (.mv 18 (.t 17)),
 .gd 18 false (some 19) (.mv 19 (.t 0)),
 .gd 18 false (some 20) (.mv 20 (.t 3)),
 .gd 18 false (some 21) (.ix 21 (.t 19) (.t 20)),
 .gd 18 false (some 22) (.call 22 true [] (.c (.clo sl1Digit [])) [(.t 21)]),
 .kill [16, 17, 19, 20, 21],
 .gd 18 false (some 23) (.not 23 (.t 22)),
 .gd 18 false (some 24) (.mv 24 (.t 23)),
 .gd 24 true (some 25) (.mv 25 (.t 0)),
 .gd 24 true (some 26) (.mv 26 (.t 3)),
 .gd 24 true (some 27) (.ix 27 (.t 25) (.t 26)),
 .gd 24 true (some 28) (.bin 28 .neq .num (.t 27) (.c (.d (.u 45)))),
 .kill [22, 23, 25, 26, 27],
 .gd 18 false (some 29) (.pick 29 (.t 24) (.t 28) (.c (.d (.b false)))),
 .gd 15 true (some 30) (.pick 30 (.t 18) (.c (.d (.b true))) (.t 29)),
 .pick 31 (.t 15) (.t 30) (.c (.d (.b false))),
 .keep [31, 3, 0]])
 (.cond (.t 31)
 (.pre [.keep []] (.seq (.r [.mv 2 (.c (.d (.b false)))])
 (.ret)))
 (.pre [.kill [31]] (.skip)))))
 (.r [.mv 8 (.t 3),
 .bin 9 .add .num (.t 8) (.c (.d (.i .i64 1))),
 .mv 3 (.t 9),
 .kill [8, 9]]))
def sSmallName_m : Fn := ⟨1, [.t 2], false,
 .seq (.r [.mv 2 (.c (.d (.b false))),
 .kill [2]])
 (.seq (.seq (.r [.mv 3 (.c (.d (.i .i64 0)))])
 (.blk 0 (.pre [.keep [3, 0]] (.loop sSmallName_l0))))
 (.seq (.r [.mv 32 (.t 0),
 .lns 33 (.t 32),
 .call 34 true [] (.c (.clo sl1In [])) [(.t 33), (.c (.d (.i .i64 1))), (.c (.d (.i .i64 20)))],
 .mv 2 (.t 34),
 .keep [2]])
 (.ret)))⟩
def sl3Val_m : Fn := ⟨1, [.t 2], false,
 .seq (.r [.mv 2 (.c (.d (.b false))),
 .kill [2]])
 (.seq (.r [.mv 3 (.t 0),
 .lns 4 (.t 3),
 .bin 5 .leq .num (.t 4) (.c (.d (.i .i64 60))),
 .mv 6 (.t 5),
 .gd 6 true (some 7) (.mv 7 (.t 0)),
 .gd 6 true (some 8) (.call 8 true [] (.c (.clo sPlain [])) [(.t 7)]),
 .pick 9 (.t 6) (.t 8) (.c (.d (.b false))),
 .kill [3, 4, 5, 6, 7, 8],
 .mv 10 (.t 9),
 .gd 10 true (some 11) (.mv 11 (.t 0)),
 .gd 10 true (some 12) (.call 12 true [] (.c (.clo sTrim [])) [(.t 11)]),
 .gd 10 true (some 13) (.mv 13 (.t 0)),
 .gd 10 true (some 14) (.bin 14 .eql .num (.t 12) (.t 13)),
 .kill [0, 9, 11, 12, 13],
 .pick 15 (.t 10) (.t 14) (.c (.d (.b false))),
 .mv 2 (.t 15),
 .keep [2]])
 (.ret))⟩
/-- live: [0, 1, 6, 7]; objects: [] -/
def sParseNum_l0 : C :=
 .seq (.seq (.r [.mv 8 (.t 7),
 .mv 9 (.t 0),
 .lns 10 (.t 9),
 .bin 11 .lss .num (.t 8) (.t 10),
 .mv 12 (.t 11),
 .gd 12 true (some 13) (.mv 13 (.t 7)),
 .gd 12 true (some 14) (.bin 14 .lss .num (.t 13) (.c (.d (.i .i64 8)))),
 .kill [8, 9, 10, 11, 13],
 .pick 15 (.t 12) (.t 14) (.c (.d (.b false))),
 .keep [15, 7, 6, 1, 0]])
 (.cond (.t 15)
 (.pre [.kill [15]] (.skip))
 (.pre [.kill [7, 15]] (.ex 0))))
 (.seq (.blk 1 (.seq (.seq (.r [.mv 18 (.t 0),
 .mv 19 (.t 7),
 .ix 20 (.t 18) (.t 19),
 .call 21 true [] (.c (.clo sl1Digit [])) [(.t 20)],
 .not 22 (.t 21),
 .kill [18, 19, 20, 21]])
 (.cond (.t 22)
 (.pre [.keep []] (.seq (.r [.mv 4 (.c (.d (.i .i64 0))),
 .mv 5 (.c (.d (.b false)))])
 (.ret)))
 (.pre [.kill [22]] (.skip))))
 (.r [.mv 23 (.t 6),
 .bin 24 .mul .num (.t 23) (.c (.d (.i .i64 10))),
 .mv 25 (.t 0),
 .mv 26 (.t 7),
 .ix 27 (.t 25) (.t 26),
 .bin 28 .sub .num (.t 27) (.c (.d (.u 48))),
 .kill [6, 23, 25, 26, 27],
 .cvi 29 .i64 (.t 28),
 .bin 30 .add .num (.t 24) (.t 29),
 .mv 6 (.t 30),
 .keep [7, 6, 1, 0]])))
 (.r [.mv 16 (.t 7),
 .bin 17 .add .num (.t 16) (.c (.d (.i .i64 1))),
 .mv 7 (.t 17),
 .kill [16, 17]]))
def sParseNum_m : Fn := ⟨2, [.t 4, .t 5], false,
 .seq (.r [.mv 4 (.c (.d (.i .i64 0))),
 .mv 5 (.c (.d (.b false))),
 .kill [4, 5]])
 (.seq (.r [.mv 6 (.c (.d (.i .i64 0)))])
 (.seq (.seq (.r [.mv 7 (.c (.d (.i .i64 0)))])
 (.blk 0 (.pre [.keep [7, 6, 1, 0]] (.loop sParseNum_l0))))
 (.seq (.seq (.r [.mv 31 (.t 0),
 .lns 32 (.t 31),
 .call 33 true [] (.c (.clo sl1In [])) [(.t 32), (.c (.d (.i .i64 1))), (.c (.d (.i .i64 7)))],
 .not 34 (.t 33),
 .mv 35 (.t 34),
 .gd 35 false (some 36) (.mv 36 (.t 0)),
 .gd 35 false (some 37) (.lns 37 (.t 36)),
 .kill [31, 32, 33, 34, 36],
 .gd 35 false (some 38) (.bin 38 .gtr .num (.t 37) (.c (.d (.i .i64 1)))),
 .gd 35 false (some 39) (.mv 39 (.t 38)),
 .gd 39 true (some 40) (.mv 40 (.t 0)),
 .gd 39 true (some 41) (.ix 41 (.t 40) (.c (.d (.i .i64 0)))),
 .gd 39 true (some 42) (.bin 42 .eql .num (.t 41) (.c (.d (.u 48)))),
 .kill [0, 37, 38, 40, 41],
 .gd 35 false (some 43) (.pick 43 (.t 39) (.t 42) (.c (.d (.b false)))),
 .pick 44 (.t 35) (.c (.d (.b true))) (.t 43),
 .mv 45 (.t 44),
 .kill [35, 39, 42, 43, 44],
 .gd 45 false (some 46) (.mv 46 (.t 6)),
 .gd 45 false (some 47) (.mv 47 (.t 1)),
 .gd 45 false (some 48) (.bin 48 .gtr .num (.t 46) (.t 47)),
 .pick 49 (.t 45) (.c (.d (.b true))) (.t 48),
 .keep [49, 6]])
 (.cond (.t 49)
 (.pre [.keep []] (.seq (.r [.mv 4 (.c (.d (.i .i64 0))),
 .mv 5 (.c (.d (.b false)))])
 (.ret)))
 (.pre [.kill [49]] (.skip))))
 (.seq (.r [.mv 50 (.t 6),
 .mv 4 (.t 50),
 .mv 5 (.c (.d (.b true))),
 .kill [6, 50]])
 (.ret)))))⟩
/-- live: [0, 4, 5]; objects: [] -/
def sParseHex_l0 : C :=
 .seq (.seq (.r [.mv 7 (.t 5),
 .mv 8 (.t 0),
 .lns 9 (.t 8),
 .bin 10 .lss .num (.t 7) (.t 9),
 .mv 11 (.t 10),
 .gd 11 true (some 12) (.mv 12 (.t 5)),
 .gd 11 true (some 13) (.bin 13 .lss .num (.t 12) (.c (.d (.i .i64 5)))),
 .kill [7, 8, 9, 10, 12],
 .pick 14 (.t 11) (.t 13) (.c (.d (.b false))),
 .keep [14, 5, 4, 0]])
 (.cond (.t 14)
 (.pre [.kill [14]] (.skip))
 (.pre [.kill [5, 14]] (.ex 0))))
 (.seq (.blk 1 (.seq (.r [.mv 17 (.t 0),
 .mv 18 (.t 5),
 .ix 19 (.t 17) (.t 18),
 .call 20 true [] (.c (.clo sl1HexOf [])) [(.t 19)],
 .mv 6 (.t 20),
 .kill [17, 18, 19, 20]])
 (.seq (.seq (.r [.mv 21 (.t 6),
 .bin 22 .lss .num (.t 21) (.c (.d (.i .i64 0))),
 .kill [21]])
 (.cond (.t 22)
 (.pre [.keep []] (.seq (.r [.mv 2 (.c (.d (.i .i64 0))),
 .mv 3 (.c (.d (.b false)))])
 (.ret)))
 (.pre [.kill [22]] (.skip))))
 (.r [.mv 23 (.t 4),
 .bin 24 .mul .num (.t 23) (.c (.d (.i .i64 16))),
 .mv 25 (.t 6),
 .bin 26 .add .num (.t 24) (.t 25),
 .kill [4, 6, 23, 24, 25],
 .mv 4 (.t 26),
 .keep [5, 4, 0]]))))
 (.r [.mv 15 (.t 5),
 .bin 16 .add .num (.t 15) (.c (.d (.i .i64 1))),
 .mv 5 (.t 16),
 .kill [15, 16]]))
def sParseHex_m : Fn := ⟨1, [.t 2, .t 3], false,
 .seq (.r [.mv 2 (.c (.d (.i .i64 0))),
 .mv 3 (.c (.d (.b false))),
 .keep [0]])
 (.seq (.r [.mv 4 (.c (.d (.i .i64 0)))])
 (.seq (.seq (.r [.mv 5 (.c (.d (.i .i64 0)))])
 (.blk 0 (.pre [.keep [5, 4, 0]] (.loop sParseHex_l0))))
 (.seq (.seq (.r [.mv 27 (.t 0),
 .lns 28 (.t 27),
 .call 29 true [] (.c (.clo sl1In [])) [(.t 28), (.c (.d (.i .i64 1))), (.c (.d (.i .i64 4)))],
 .not 30 (.t 29),
 .keep [30, 4]])
 (.cond (.t 30)
 (.pre [.keep []] (.seq (.r [.mv 2 (.c (.d (.i .i64 0))),
 .mv 3 (.c (.d (.b false)))])
 (.ret)))
 (.pre [.kill [30]] (.skip))))
 (.seq (.r [.mv 31 (.t 4),
 .mv 2 (.t 31),
 .mv 3 (.c (.d (.b true))),
 .kill [4, 31]])
 (.ret)))))⟩
/-- live: [0, 3]; objects: [] -/
def sl3Heads_l0 : C :=
 .seq (.seq (.r [.mv 4 (.t 3),
 .mv 5 (.t 0),
 .len 6 (.t 5),
 .bin 7 .lss .num (.t 4) (.t 6),
 .kill [4, 5, 6]])
 (.cond (.t 7)
 (.pre [.kill [7]] (.skip))
 (.pre [.keep [0]] (.ex 0))))
 (.seq (.blk 1 (.seq (.r [.mv 10 (.t 0),
 .mv 11 (.t 3),
 .ia 12 2 (.t 10) (.t 11),
 .fa 13 (.t 12) 0,
 .ld 14 1 false (.t 13),
 .call 15 true [] (.c (.clo sSmallName [])) [(.t 14)],
 .kill [10, 11, 12, 13, 14],
 .not 16 (.t 15),
 .mv 17 (.t 16),
 .gd 17 false (some 18) (.mv 18 (.t 0)),
 .gd 17 false (some 19) (.mv 19 (.t 3)),
 .gd 17 false (some 20) (.ia 20 2 (.t 18) (.t 19)),
 .gd 17 false (some 21) (.fa 21 (.t 20) 1),
 .kill [15, 16, 18, 19, 20],
 .gd 17 false (some 22) (.ld 22 1 false (.t 21)),
 .gd 17 false (some 23) (.call 23 true [] (.c (.clo sl3Val [])) [(.t 22)]),
 .gd 17 false (some 24) (.not 24 (.t 23)),
 .pick 25 (.t 17) (.c (.d (.b true))) (.t 24),
 .kill [17, 21, 22, 23, 24],
 .mv 26 (.t 25),
 .gd 26 false (some 27) (.mv 27 (.t 0)),
 .gd 26 false (some 28) (.mv 28 (.t 3)),
 .gd 26 false (some 29) (.ia 29 2 (.t 27) (.t 28)),
 .gd 26 false (some 30) (.fa 30 (.t 29) 0),
 .gd 26 false (some 31) (.ld 31 1 false (.t 30)),
 .kill [25, 27, 28, 29, 30],
 .gd 26 false (some 32) (.bin 32 .eql .num (.t 31) (.c (.d (.s [99, 111, 110, 116, 101, 110, 116, 45, 108, 101, 110, 103, 116, 104])))),
 .pick 33 (.t 26) (.c (.d (.b true))) (.t 32),
 .mv 34 (.t 33),
 .gd 34 false (some 35) (.mv 35 (.t 0)),
 .gd 34 false (some 36) (.mv 36 (.t 3)),
 .gd 34 false (some 37) (.ia 37 2 (.t 35) (.t 36)),
 .kill [26, 31, 32, 33, 35, 36],
 .gd 34 false (some 38) (.fa 38 (.t 37) 0),
 .gd 34 false (some 39) (.ld 39 1 false (.t 38)),
 .gd 34 false (some 40) (.bin 40 .eql .num (.t 39) (.c (.d (.s [116, 114, 97, 110, 115, 102, 101, 114, 45, 101, 110, 99, 111, 100, 105, 110, 103])))),
 .pick 41 (.t 34) (.c (.d (.b true))) (.t 40),
 .keep [41, 3, 0]])
 (.cond (.t 41)
 (.pre [.keep []] (.seq (.r [.mv 2 (.c (.d (.b false)))])
 (.ret)))
 (.pre [.kill [41]] (.skip)))))
 (.r [.mv 8 (.t 3),
 .bin 9 .add .num (.t 8) (.c (.d (.i .i64 1))),
 .mv 3 (.t 9),
 .kill [8, 9]]))
def sl3Heads_m : Fn := ⟨1, [.t 2], false,
 .seq (.r [.mv 2 (.c (.d (.b false))),
 .kill [2]])
 (.seq (.seq (.r [.mv 3 (.c (.d (.i .i64 0)))])
 (.blk 0 (.pre [.keep [3, 0]] (.loop sl3Heads_l0))))
 (.seq (.r [.mv 42 (.t 0),
 .len 43 (.t 42),
 .bin 44 .leq .num (.t 43) (.c (.d (.i .i64 8))),
 .mv 2 (.t 44),
 .keep [2]])
 (.ret)))⟩
/-- live: [0, 5, 6, 7]; objects: [] -/
def iheadsOk_l0 : C :=
 .seq (.r [.bin 8 .lss .num (.t 7) (.t 6)])
 (.seq (.cond (.t 8)
 (.pre [.kill [8]] (.skip))
 (.pre [.keep [0]] (.ex 0)))
 (.seq (.blk 1 (.seq (.r [.ia 9 2 (.t 5) (.t 7),
 .ld 10 2 true (.t 9),
 .al 4 THead false,
 .st 2 (.t 4) (.t 10),
 .kill [9, 10]])
 (.seq (.r [.fa 11 (.t 4) 0,
 .ld 12 1 false (.t 11),
 .call 13 true [] (.c (.clo iSmallName [])) [(.t 12)],
 .not 14 (.t 13),
 .mv 15 (.t 14),
 .gd 15 false (some 16) (.fa 16 (.t 4) 1),
 .gd 15 false (some 17) (.ld 17 1 false (.t 16)),
 .kill [11, 12, 13, 14, 16],
 .gd 15 false (some 18) (.call 18 true [] (.c (.clo ivalOk [])) [(.t 17)]),
 .gd 15 false (some 19) (.not 19 (.t 18)),
 .pick 20 (.t 15) (.c (.d (.b true))) (.t 19),
 .mv 21 (.t 20),
 .kill [15, 17, 18, 19, 20],
 .gd 21 false (some 22) (.fa 22 (.t 4) 0),
 .gd 21 false (some 23) (.ld 23 1 false (.t 22)),
 .gd 21 false (some 24) (.bin 24 .eql .num (.t 23) (.c (.d (.s [99, 111, 110, 116, 101, 110, 116, 45, 108, 101, 110, 103, 116, 104])))),
 .pick 25 (.t 21) (.c (.d (.b true))) (.t 24),
 .mv 26 (.t 25),
 .kill [21, 22, 23, 24, 25],
 .gd 26 false (some 27) (.fa 27 (.t 4) 0),
 .gd 26 false (some 28) (.ld 28 1 false (.t 27)),
 .gd 26 false (some 29) (.bin 29 .eql .num (.t 28) (.c (.d (.s [116, 114, 97, 110, 115, 102, 101, 114, 45, 101, 110, 99, 111, 100, 105, 110, 103])))),
 .pick 30 (.t 26) (.c (.d (.b true))) (.t 29),
 .keep [30, 7, 6, 5, 0],
 .drop [68]])
 (.cond (.t 30)
 (.pre [.keep []] (.seq (.r [.mv 2 (.c (.d (.b false)))])
 (.ret)))
 (.pre [.kill [30]] (.skip))))))
 (.r [.bin 31 .add .num (.t 7) (.c (.d (.i .i64 1))),
 .mv 7 (.t 31),
 .kill [31]])))
def iheadsOk_m : Fn := ⟨1, [.t 2], false,
 .seq (.r [.mv 2 (.c (.d (.b false))),
 .kill [2]])
 (.seq (.seq (.r [.mv 5 (.t 0),
 .len 6 (.t 5),
 .mv 7 (.c (.d (.i .i64 0)))])
 (.blk 0 (.pre [.keep [7, 6, 5, 0]] (.loop iheadsOk_l0))))
 (.seq (.r [.mv 32 (.t 0),
 .len 33 (.t 32),
 .bin 34 .leq .num (.t 33) (.c (.d (.i .i64 8))),
 .mv 2 (.t 34),
 .keep [2]])
 (.ret)))⟩
def iisPlain_m : Fn := ⟨1, [.t 2], false,
 .seq (.r [.mv 2 (.c (.d (.b false))),
 .kill [2]])
 (.seq (.r [.mv 3 (.t 0),
 .bin 4 .geq .num (.t 3) (.c (.d (.u 32))),
 .mv 5 (.t 4),
 .gd 5 true (some 6) (.mv 6 (.t 0)),
 .gd 5 true (some 7) (.bin 7 .leq .num (.t 6) (.c (.d (.u 126)))),
 .pick 8 (.t 5) (.t 7) (.c (.d (.b false))),
 .kill [0, 3, 4, 5, 6, 7],
 .mv 2 (.t 8),
 .keep [2]])
 (.ret))⟩
def iisSmall_m : Fn := ⟨1, [.t 2], false,
 .seq (.r [.mv 2 (.c (.d (.b false))),
 .kill [2]])
 (.seq (.r [.mv 3 (.t 0),
 .bin 4 .geq .num (.t 3) (.c (.d (.u 97))),
 .mv 5 (.t 4),
 .gd 5 true (some 6) (.mv 6 (.t 0)),
 .gd 5 true (some 7) (.bin 7 .leq .num (.t 6) (.c (.d (.u 122)))),
 .pick 8 (.t 5) (.t 7) (.c (.d (.b false))),
 .kill [0, 3, 4, 5, 6, 7],
 .mv 2 (.t 8),
 .keep [2]])
 (.ret))⟩
def iisDigit_m : Fn := ⟨1, [.t 2], false,
 .seq (.r [.mv 2 (.c (.d (.b false))),
 .kill [2]])
 (.seq (.r [.mv 3 (.t 0),
 .bin 4 .geq .num (.t 3) (.c (.d (.u 48))),
 .mv 5 (.t 4),
 .gd 5 true (some 6) (.mv 6 (.t 0)),
 .gd 5 true (some 7) (.bin 7 .leq .num (.t 6) (.c (.d (.u 57)))),
 .pick 8 (.t 5) (.t 7) (.c (.d (.b false))),
 .kill [0, 3, 4, 5, 6, 7],
 .mv 2 (.t 8),
 .keep [2]])
 (.ret))⟩
def iParseNum_m : Fn := ⟨2, [.t 4, .t 5], false,
 .seq (.r [.mv 4 (.c (.d (.i .i64 0))),
 .mv 5 (.c (.d (.b false))),
 .kill [4, 5]])
 (.seq (.r [.mv 9 (.t 0),
 .call 10 true [] (.c (.clo x_strconv_Atoi [])) [(.t 9)],
 .mv 8 (.t 10),
 .ext 11 (.t 8) 0,
 .ext 12 (.t 8) 1,
 .mv 6 (.t 11),
 .mv 7 (.t 12),
 .keep [7, 6, 1, 0]])
 (.seq (.seq (.r [.mv 13 (.t 7),
 .bin 14 .neq .ifc (.t 13) (.c (.d (.e true))),
 .mv 15 (.t 14),
 .gd 15 false (some 16) (.mv 16 (.t 6)),
 .gd 15 false (some 17) (.bin 17 .lss .num (.t 16) (.c (.d (.i .i64 0)))),
 .pick 18 (.t 15) (.c (.d (.b true))) (.t 17),
 .kill [7, 13, 14, 15, 16, 17],
 .mv 19 (.t 18),
 .gd 19 false (some 20) (.mv 20 (.t 6)),
 .gd 19 false (some 21) (.mv 21 (.t 1)),
 .gd 19 false (some 22) (.bin 22 .gtr .num (.t 20) (.t 21)),
 .pick 23 (.t 19) (.c (.d (.b true))) (.t 22),
 .kill [1, 18, 19, 20, 21, 22],
 .mv 24 (.t 23),
 .gd 24 false (some 25) (.mv 25 (.t 0)),
 .gd 24 false (some 26) (.lns 26 (.t 25)),
 .gd 24 false (some 27) (.bin 27 .gtr .num (.t 26) (.c (.d (.i .i64 7)))),
 .pick 28 (.t 24) (.c (.d (.b true))) (.t 27),
 .kill [23, 24, 25, 26, 27],
 .mv 29 (.t 28),
 .gd 29 false (some 30) (.mv 30 (.t 6)),
 .gd 29 false (some 31) (.call 31 true [] (.c (.clo iNumText [])) [(.t 30)]),
 .gd 29 false (some 32) (.mv 32 (.t 0)),
 .gd 29 false (some 33) (.bin 33 .neq .num (.t 31) (.t 32)),
 .kill [0, 28, 30, 31, 32],
 .pick 34 (.t 29) (.c (.d (.b true))) (.t 33),
 .keep [34, 6]])
 (.cond (.t 34)
 (.pre [.keep []] (.seq (.r [.mv 4 (.c (.d (.i .i64 0))),
 .mv 5 (.c (.d (.b false)))])
 (.ret)))
 (.pre [.kill [34]] (.skip))))
 (.seq (.r [.mv 35 (.t 6),
 .mv 4 (.t 35),
 .mv 5 (.c (.d (.b true))),
 .kill [6, 35]])
 (.ret))))⟩
def idigitOf_m : Fn := ⟨1, [.t 2], false,
 .seq (.r [.mv 2 (.c (.d (.i .i64 0))),
 .kill [2]])
 (.seq (.blk 0 (.seq (.r [.mv 4 (.t 0),
 .call 5 true [] (.c (.clo iisDigit [])) [(.t 4)],
 .mv 3 (.t 5),
 .kill [4, 5]])
 (.cond (.t 3)
 (.pre [.kill [3]] (.seq (.r [.mv 6 (.t 0),
 .bin 7 .sub .num (.t 6) (.c (.d (.u 48))),
 .cvi 8 .i64 (.t 7),
 .mv 2 (.t 8),
 .keep [2]])
 (.ret)))
 (.pre [.kill [3]] (.seq (.r [.mv 10 (.t 0),
 .bin 11 .geq .num (.t 10) (.c (.d (.u 97))),
 .mv 12 (.t 11),
 .gd 12 true (some 13) (.mv 13 (.t 0)),
 .gd 12 true (some 14) (.bin 14 .leq .num (.t 13) (.c (.d (.u 102)))),
 .pick 15 (.t 12) (.t 14) (.c (.d (.b false))),
 .kill [10, 11, 12, 13, 14],
 .mv 9 (.t 15),
 .keep [9, 0]])
 (.cond (.t 9)
 (.pre [.kill [9]] (.seq (.r [.mv 16 (.t 0),
 .bin 17 .sub .num (.t 16) (.c (.d (.u 97))),
 .cvi 18 .i64 (.t 17),
 .bin 19 .add .num (.t 18) (.c (.d (.i .i64 10))),
 .mv 2 (.t 19),
 .keep [2]])
 (.ret)))
 (.pre [.kill [9]] (.seq (.r [.mv 21 (.t 0),
 .bin 22 .geq .num (.t 21) (.c (.d (.u 65))),
 .mv 23 (.t 22),
 .gd 23 true (some 24) (.mv 24 (.t 0)),
 .gd 23 true (some 25) (.bin 25 .leq .num (.t 24) (.c (.d (.u 70)))),
 .pick 26 (.t 23) (.t 25) (.c (.d (.b false))),
 .kill [21, 22, 23, 24, 25],
 .mv 20 (.t 26),
 .keep [20, 0]])
 (.cond (.t 20)
 (.pre [.kill [20]] (.seq (.r [.mv 27 (.t 0),
 .bin 28 .sub .num (.t 27) (.c (.d (.u 65))),
 .cvi 29 .i64 (.t 28),
 .bin 30 .add .num (.t 29) (.c (.d (.i .i64 10))),
 .mv 2 (.t 30),
 .keep [2]])
 (.ret)))
 (.pre [.keep []] (.skip)))))))))))
 (.seq (.r [.mv 2 (.c (.d (.i .i64 (-1))))])
 (.ret)))⟩
def sl1Large_m : Fn := ⟨1, [.t 2], false,
 .seq (.r [.mv 2 (.c (.d (.b false))),
 .kill [2]])
 (.seq (.r [.mv 3 (.t 0),
 .cvi 4 .i64 (.t 3),
 .call 5 true [] (.c (.clo sl1In [])) [(.t 4), (.c (.d (.i .i64 65))), (.c (.d (.i .i64 90)))],
 .mv 2 (.t 5),
 .keep [2]])
 (.ret))⟩
def sl1Blank_m : Fn := ⟨1, [.t 2], false,
 .seq (.r [.mv 2 (.c (.d (.b false))),
 .kill [2]])
 (.seq (.r [.mv 3 (.t 0),
 .bin 4 .eql .num (.t 3) (.c (.d (.u 32))),
 .mv 5 (.t 4),
 .gd 5 false (some 6) (.mv 6 (.t 0)),
 .gd 5 false (some 7) (.bin 7 .eql .num (.t 6) (.c (.d (.u 9)))),
 .pick 8 (.t 5) (.c (.d (.b true))) (.t 7),
 .kill [0, 3, 4, 5, 6, 7],
 .mv 2 (.t 8),
 .keep [2]])
 (.ret))⟩
def sl1Small_m : Fn := ⟨1, [.t 2], false,
 .seq (.r [.mv 2 (.c (.d (.b false))),
 .kill [2]])
 (.seq (.r [.mv 3 (.t 0),
 .cvi 4 .i64 (.t 3),
 .call 5 true [] (.c (.clo sl1In [])) [(.t 4), (.c (.d (.i .i64 97))), (.c (.d (.i .i64 122)))],
 .mv 2 (.t 5),
 .keep [2]])
 (.ret))⟩
def sl1Digit_m : Fn := ⟨1, [.t 2], false,
 .seq (.r [.mv 2 (.c (.d (.b false))),
 .kill [2]])
 (.seq (.r [.mv 3 (.t 0),
 .cvi 4 .i64 (.t 3),
 .call 5 true [] (.c (.clo sl1In [])) [(.t 4), (.c (.d (.i .i64 48))), (.c (.d (.i .i64 57)))],
 .mv 2 (.t 5),
 .keep [2]])
 (.ret))⟩
/-- live: [0, 3]; objects: [] -/
def sPlain_l0 : C :=
 .seq (.seq (.r [.mv 4 (.t 3),
 .mv 5 (.t 0),
 .lns 6 (.t 5),
 .bin 7 .lss .num (.t 4) (.t 6),
 .kill [4, 5, 6]])
 (.cond (.t 7)
 (.pre [.kill [7]] (.skip))
 (.pre [.keep []] (.ex 0))))
 (.seq (.blk 1 (.seq (.r [.mv 10 (.t 0),
 .mv 11 (.t 3),
 .ix 12 (.t 10) (.t 11),
 .cvi 13 .i64 (.t 12),
 .call 14 true [] (.c (.clo sl1In [])) [(.t 13), (.c (.d (.i .i64 32))), (.c (.d (.i .i64 126)))],
 .not 15 (.t 14),
 .keep [15, 3, 0]])
 (.cond (.t 15)
 (.pre [.keep []] (.seq (.r [.mv 2 (.c (.d (.b false)))])
 (.ret)))
 (.pre [.kill [15]] (.skip)))))
 (.r [.mv 8 (.t 3),
 .bin 9 .add .num (.t 8) (.c (.d (.i .i64 1))),
 .mv 3 (.t 9),
 .kill [8, 9]]))
def sPlain_m : Fn := ⟨1, [.t 2], false,
 .seq (.r [.mv 2 (.c (.d (.b false))),
 .kill [2]])
 (.seq (.seq (.r [.mv 3 (.c (.d (.i .i64 0)))])
 (.blk 0 (.pre [.keep [3, 0]] (.loop sPlain_l0))))
 (.seq (.r [.mv 2 (.c (.d (.b true)))])
 (.ret)))⟩
def sl1HexOf_m : Fn := ⟨1, [.t 2], false,
 .seq (.r [.mv 2 (.c (.d (.i .i64 0))),
 .kill [2]])
 (.seq (.blk 0 (.seq (.r [.mv 4 (.t 0),
 .call 5 true [] (.c (.clo sl1Digit [])) [(.t 4)],
 .mv 3 (.t 5),
 .kill [4, 5]])
 (.cond (.t 3)
 (.pre [.kill [3]] (.seq (.r [.mv 6 (.t 0),
 .cvi 7 .i64 (.t 6),
 .bin 8 .sub .num (.t 7) (.c (.d (.i .i64 48))),
 .mv 2 (.t 8),
 .keep [2]])
 (.ret)))
 (.pre [.kill [3]] (.seq (.r [.mv 10 (.t 0),
 .cvi 11 .i64 (.t 10),
 .call 12 true [] (.c (.clo sl1In [])) [(.t 11), (.c (.d (.i .i64 97))), (.c (.d (.i .i64 102)))],
 .mv 9 (.t 12),
 .keep [9, 0]])
 (.cond (.t 9)
 (.pre [.kill [9]] (.seq (.r [.mv 13 (.t 0),
 .cvi 14 .i64 (.t 13),
 .bin 15 .sub .num (.t 14) (.c (.d (.i .i64 97))),
 .bin 16 .add .num (.t 15) (.c (.d (.i .i64 10))),
 .mv 2 (.t 16),
 .keep [2]])
 (.ret)))
 (.pre [.kill [9]] (.seq (.r [.mv 18 (.t 0),
 .cvi 19 .i64 (.t 18),
 .call 20 true [] (.c (.clo sl1In [])) [(.t 19), (.c (.d (.i .i64 65))), (.c (.d (.i .i64 70)))],
 .mv 17 (.t 20),
 .keep [17, 0]])
 (.cond (.t 17)
 (.pre [.kill [17]] (.seq (.r [.mv 21 (.t 0),
 .cvi 22 .i64 (.t 21),
 .bin 23 .sub .num (.t 22) (.c (.d (.i .i64 65))),
 .bin 24 .add .num (.t 23) (.c (.d (.i .i64 10))),
 .mv 2 (.t 24),
 .keep [2]])
 (.ret)))
 (.pre [.keep []] (.skip)))))))))))
 (.seq (.r [.mv 2 (.c (.d (.i .i64 (-1))))])
 (.ret)))⟩
def tabL : List (Nat × Fn) := [(wFnRecs, wFnRecs_m), (wbig, wbig_m), (sDrawPutRec, sDrawPutRec_m), (iPutRec, iPutRec_m), (sDrawGetRec, sDrawGetRec_m), (iGetRec, iGetRec_m), (sGetRec, sGetRec_m), (sPutRec, sPutRec_m), (iSameReq, iSameReq_m), (sl1New, sl1New_m), (sl1Int, sl1Int_m), (sl3Any, sl3Any_m), (sl1Bytes, sl1Bytes_m), (sl1Below, sl1Below_m), (icopyBytes, icopyBytes_m), (iputRec, iputRec_m), (sl3Draw, sl3Draw_m), (iGetReq, iGetReq_m), (sl1In, sl1In_m), (sGetReq, sGetReq_m), (sPutReq, sPutReq_m), (isameHeads, isameHeads_m), (sl1Str, sl1Str_m), (sl1Byte, sl1Byte_m), (iin, iin_m), (iPutReq, iPutReq_m), (sl3DrawHeads, sl3DrawHeads_m), (sl3Body, sl3Body_m), (iHeadEnd, iHeadEnd_m), (ireadHead, ireadHead_m), (iGetChunks, iGetChunks_m), (sHeadEnd, sHeadEnd_m), (sl3Read, sl3Read_m), (sGetChunks, sGetChunks_m), (sl3Put, sl3Put_m), (sNumText, sNumText_m), (ilengthText, ilengthText_m), (iputReq, iputReq_m), (ilineOk, ilineOk_m), (ireqHead_line, ireqHead_line_m), (iLower, iLower_m), (ichunks_size, ichunks_size_m), (ichunks_end, ichunks_end_m), (sl3Lines, sl3Lines_m), (sl3First, sl3First_m), (sl3Head, sl3Head_m), (sl3Least, sl3Least_m), (sl4Size, sl4Size_m), (sl4End, sl4End_m), (sl3HeadsText, sl3HeadsText_m), (sReqOk, sReqOk_m), (iNumText, iNumText_m), (iReqOk, iReqOk_m), (iheadText, iheadText_m), (iisLarge, iisLarge_m), (iPlain, iPlain_m), (iTrim, iTrim_m), (iSmallName, iSmallName_m), (ivalOk, ivalOk_m), (ireqHead_special, ireqHead_special_m), (iParseHex, iParseHex_m), (sl2Split, sl2Split_m), (sl3Method, sl3Method_m), (sl3Target, sl3Target_m), (sLower, sLower_m), (sTrim, sTrim_m), (sSmallName, sSmallName_m), (sl3Val, sl3Val_m), (sParseNum, sParseNum_m), (sParseHex, sParseHex_m), (sl3Heads, sl3Heads_m), (iheadsOk, iheadsOk_m), (iisPlain, iisPlain_m), (iisSmall, iisSmall_m), (iisDigit, iisDigit_m), (iParseNum, iParseNum_m), (idigitOf, idigitOf_m), (sl1Large, sl1Large_m), (sl1Blank, sl1Blank_m), (sl1Small, sl1Small_m), (sl1Digit, sl1Digit_m), (sPlain, sPlain_m), (sl1HexOf, sl1HexOf_m)]
end Go.Proofs.YtniakiefibpgmaaGreatDoorK
