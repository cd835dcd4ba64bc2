import Derived.Test.YtniakiefibpgmaaGreatDoorJ24
import Derived.Test.YtniakiefibpgmaaGreatDoorProg
import Derived.KernelRfl
set_option linter.unusedVariables false
set_option linter.unusedSimpArgs false
namespace Go.Proofs.YtniakiefibpgmaaGreatDoorK
open Go.RowKit
def wFnLocked : Nat := 6
def wbig : Nat := 7
def wat : Nat := 26
def iDraw : Nat := 27
def iSrvNew : Nat := 28
def iDo : Nat := 29
def iHeadOf : Nat := 30
def iTick : Nat := 31
def iNumText : Nat := 32
def iSameSrv : Nat := 33
def icopySrv : Nat := 55
def iSrvOk : Nat := 56
def iSrv_do : Nat := 57
def iin : Nat := 58
def iLiveLocks : Nat := 59
def isameTrees : Nat := 61
def isameLocks : Nat := 62
def isameInts : Nat := 63
def icopyTree : Nat := 78
def icopyLocks : Nat := 79
def icopyInts : Nat := 80
def iTreeOk : Nat := 81
def iLocksOk : Nat := 82
def iusedOk : Nat := 83
def ihasInt : Nat := 84
def iReqOk : Nat := 85
def icodeAlone : Nat := 86
def iAskOf : Nat := 87
def iChanges : Nat := 88
def iSrv_method : Nat := 89
def ikeepLocks : Nat := 90
def iLiveLocks_1 : Nat := 91
def isameRes : Nat := 93
def iSamePath : Nat := 94
def icopyRes : Nat := 113
def icopyPath : Nat := 114
def iresOk : Nat := 115
def iLessPath : Nat := 116
def iIsColl : Nat := 117
def iAbove : Nat := 118
def iLockOk : Nat := 119
def iLockClash : Nat := 120
def ilineOk : Nat := 99
def iheadsOk : Nat := 121
def iParsePath : Nat := 122
def iDepthOf : Nat := 123
def iknownMethod : Nat := 124
def iParseIf : Nat := 125
def idepthFits : Nat := 126
def iSubmitted : Nat := 127
def iifCode : Nat := 128
def iSrv_read : Nat := 129
def iSrv_patch : Nat := 130
def iFind : Nat := 131
def iSrv_lock : Nat := 132
def iSrv_unlock : Nat := 133
def iSrv_turn : Nat := 134
def iPathOk : Nat := 158
def iPropsOk : Nat := 159
def iFindRes : Nat := 160
def iCovers : Nat := 161
def iisLarge : Nat := 139
def iPlain : Nat := 140
def iSmallName : Nat := 144
def ivalOk : Nat := 145
def iUnquote : Nat := 163
def iLower : Nat := 101
def ilistAt : Nat := 164
def iTagAt : Nat := 166
def iEvalIf : Nat := 167
def iTokensAt : Nat := 168
def iMatchOk : Nat := 169
def iNoneOk : Nat := 170
def iMayChange : Nat := 171
def ietag : Nat := 172
def iParseNode : Nat := 173
def iSetsOf : Nat := 174
def iPatch : Nat := 175
def iNodeText : Nat := 176
def iMultiNode : Nat := 177
def iItemsOf : Nat := 178
def ilockHeads : Nat := 179
def iAddLock : Nat := 180
def iSrv_useToken : Nat := 181
def iParseNum : Nat := 184
def iDropLock : Nat := 185
def iPutFile : Nat := 186
def iMakeColl : Nat := 187
def iRemove : Nat := 188
def iMoveTree : Nat := 189
def iCopyTree : Nat := 190
def iSrv_copyAlone : Nat := 191
def iSrv_dropUnder : Nat := 192
def iTagText : Nat := 193
def iNameOk : Nat := 216
def ipropOk : Nat := 217
def ilessProp : Nat := 218
def iUnder : Nat := 219
def iisPlain : Nat := 204
def iisSmall : Nat := 207
def iisDigit : Nat := 208
def iTrim : Nat := 143
def idigitOf : Nat := 209
def icondAt : Nat := 221
def itagged : Nat := 226
def iMayChange_1 : Nat := 227
def iMayChange_2 : Nat := 229
def iMayChange_3 : Nat := 230
def iPieces : Nat := 231
def inodes_blanks : Nat := 232
def inodes_node : Nat := 233
def iNodeOk : Nat := 234
def iisDav : Nat := 235
def iSetProps : Nat := 236
def inodeText : Nat := 237
def idavNode : Nat := 238
def itextNode : Nat := 239
def iPathText : Nat := 240
def iitem : Nat := 241
def iKidsOf : Nat := 242
def iopForm : Nat := 246
def iwithRes : Nat := 247
def iwithout : Nat := 248
def icopied : Nat := 249
def iSrv_dropUnder_1 : Nat := 250
def itagAt : Nat := 264
def iParseTags : Nat := 267
def iMayTurn : Nat := 228
def imarkAt : Nat := 268
def iUnescape : Nat := 270
def iisBlank : Nat := 271
def inodeOk : Nat := 272
def isetProp : Nat := 273
def iPieceText : Nat := 274
def iEscape : Nat := 275
def iQuote : Nat := 276
def iisAt : Nat := 281
def iDeepOf : Nat := 282
def inameAt : Nat := 288
def inamed : Nat := 289
def x_strconv_Itoa : Nat := 60
def x_strings_Contains : Nat := 141
def x_strings_Split : Nat := 98
def x_strings_HasPrefix : Nat := 162
def x_strings_TrimLeft : Nat := 165
def x_strings_CutPrefix : Nat := 182
def x_strings_CutSuffix : Nat := 183
def x_strconv_Atoi : Nat := 245
def x_strings_Trim : Nat := 206
def x_strings_Cut : Nat := 142
def x_strings_IndexByte : Nat := 269
def x_strings_Join : Nat := 277
abbrev TProp : T := .pr .str (.pr .str .str)
abbrev TRes : T := .pr (.sl .str) (.pr .bool (.pr .str (.pr (.int .i64) (.sl TProp))))
abbrev TLock : T := .pr (.int .i64) (.pr (.sl .str) (.pr .bool (.pr .bool (.int .i64))))
abbrev TSrv : T := .pr (.sl TRes) (.pr (.sl TLock) (.pr (.int .i64) (.pr (.int .i64) (.pr (.sl (.int .i64)) (.sl (.int .i64))))))
abbrev THead : T := .pr .str .str
abbrev TResp : T := .pr (.int .i64) (.pr (.sl THead) .str)
abbrev TReq : T := .pr .str (.pr .str (.pr (.sl THead) .str))
abbrev TAsk : T := .pr (.sl .str) (.pr (.sl .str) (.pr .bool (.pr .bool (.pr (.sl (.int .i64)) (.int .i64)))))
abbrev TCond : T := .pr .bool (.pr (.int .i64) .str)
abbrev TPiece : T := .pr (.int .i64) (.pr .str (.pr .str (.pr .bool .str)))
abbrev Tnodes : T := .pr (.sl TPiece) (.pr (.int .i64) .bool)
abbrev TSet : T := .pr .bool TProp
abbrev TItem : T := .pr (.sl .str) .str
def wFnLocked_m : Fn := ⟨1, [.t 2], false,
 .seq (.r [.mv 2 (.c (.d (.b false))),
 .kill [2]])
 (.seq (.seq (.r [.mv 15 (.t 0),
 .call 16 true [] (.c (.clo wbig [])) [(.t 15)],
 .kill [15]])
 (.cond (.t 16)
 (.pre [.keep []] (.seq (.r [.mv 2 (.c (.d (.b true)))])
 (.ret)))
 (.pre [.kill [16]] (.skip))))
 (.seq (.r [.mv 17 (.t 0),
 .call 18 true [] (.c (.clo wat [])) [(.t 17), (.c (.d (.i .i64 2)))],
 .bin 19 .rem .num (.t 18) (.c (.d (.i .i64 9))),
 .bin 20 .add .num (.c (.d (.i .i64 1))) (.t 19),
 .mv 3 (.t 20),
 .keep [3, 0]])
 (.seq (.r [.call 21 true [] (.c (.clo iSrvNew [])) [],
 .mv 22 (.t 3),
 .call 23 true [] (.c (.clo iDraw [])) [(.t 21), (.t 22)],
 .al 4 TSrv true,
 .st 6 (.t 4) (.t 23),
 .kill [21, 22, 23]])
 (.seq (.r [.ld 25 6 true (.t 4),
 .bd 26 [.d (.s []), .d (.s []), .nil THead, .d (.s [])] [(0, 1, (.c (.d (.s [80, 85, 84])))), (1, 1, (.c (.d (.s [47, 97])))), (3, 1, (.c (.d (.s [111, 108, 100]))))],
 .call 27 true [] (.c (.clo iDo [])) [(.t 25), (.t 26)],
 .mv 24 (.t 27),
 .ext 28 (.t 24) 0,
 .ext 29 (.t 24) 1,
 .al 5 TResp true,
 .st 6 (.t 4) (.t 28),
 .kill [24, 25, 26, 27, 28],
 .st 3 (.t 5) (.t 29),
 .keep [5, 4, 3, 0]])
 (.seq (.r [.ld 31 6 true (.t 4),
 .bd 32 [.d (.s []), .d (.s [])] [(0, 1, (.c (.d (.s [116, 105, 109, 101, 111, 117, 116])))), (1, 1, (.c (.d (.s [53, 48]))))],
 .bs 33 THead false 1 [.d (.s []), .d (.s [])] [(0, (.t 32))],
 .frz 33,
 .bd 34 [.d (.s []), .d (.s []), .nil THead, .d (.s [])] [(0, 1, (.c (.d (.s [76, 79, 67, 75])))), (1, 1, (.c (.d (.s [47, 97])))), (2, 1, (.t 33))],
 .call 35 true [] (.c (.clo iDo [])) [(.t 31), (.t 34)],
 .mv 30 (.t 35),
 .kill [31, 32, 33, 34, 35],
 .ext 36 (.t 30) 0,
 .ext 37 (.t 30) 1,
 .al 6 TResp true,
 .st 6 (.t 4) (.t 36),
 .st 3 (.t 6) (.t 37),
 .keep [6, 5, 4, 3, 0],
 .drop [97]])
 (.seq (.r [.fa 39 (.t 6) 1,
 .ld 40 1 false (.t 39),
 .call 41 true [] (.c (.clo iHeadOf [])) [(.t 40), (.c (.d (.s [108, 111, 99, 107, 45, 116, 111, 107, 101, 110])))],
 .mv 38 (.t 41),
 .ext 42 (.t 38) 0,
 .ext 43 (.t 38) 1,
 .mv 7 (.t 42),
 .kill [38, 39, 40, 41, 42],
 .mv 8 (.t 43),
 .kill [38, 39, 40, 41, 42, 43]])
 (.seq (.r [.ld 45 6 true (.t 4),
 .bd 46 [.d (.s []), .d (.s []), .nil THead, .d (.s [])] [(0, 1, (.c (.d (.s [80, 85, 84])))), (1, 1, (.c (.d (.s [47, 97])))), (3, 1, (.c (.d (.s [110, 101, 119]))))],
 .call 47 true [] (.c (.clo iDo [])) [(.t 45), (.t 46)],
 .mv 44 (.t 47),
 .ext 48 (.t 44) 0,
 .ext 49 (.t 44) 1,
 .al 9 TSrv true,
 .al 10 TResp true,
 .st 6 (.t 9) (.t 48),
 .kill [44, 45, 46, 47, 48],
 .st 3 (.t 10) (.t 49),
 .kill [44, 45, 46, 47, 48, 49]])
 (.seq (.r [.ld 51 6 true (.t 4),
 .mv 52 (.t 7),
 .bin 53 .add .num (.c (.d (.s [40]))) (.t 52),
 .bin 54 .add .num (.t 53) (.c (.d (.s [41]))),
 .bd 55 [.d (.s []), .d (.s [])] [(0, 1, (.c (.d (.s [105, 102])))), (1, 1, (.t 54))],
 .bs 56 THead false 1 [.d (.s []), .d (.s [])] [(0, (.t 55))],
 .frz 56,
 .bd 57 [.d (.s []), .d (.s []), .nil THead, .d (.s [])] [(0, 1, (.c (.d (.s [80, 85, 84])))), (1, 1, (.c (.d (.s [47, 97])))), (3, 1, (.c (.d (.s [110, 101, 119])))), (2, 1, (.t 56))],
 .kill [52, 53, 54, 55, 56],
 .call 58 true [] (.c (.clo iDo [])) [(.t 51), (.t 57)],
 .mv 50 (.t 58),
 .ext 59 (.t 50) 0,
 .ext 60 (.t 50) 1,
 .al 11 TSrv true,
 .al 12 TResp true,
 .st 6 (.t 11) (.t 59),
 .kill [11, 50, 51, 57, 58, 59],
 .st 3 (.t 12) (.t 60),
 .keep [12, 10, 9, 8, 7, 6, 5, 4, 3, 0],
 .drop [75, 120]])
 (.seq (.post (.r [.an [77, 78, 65064] [] [] [] (.ld 62 6 true (.t 4)),
 .an [77, 78] [] [] [] (.mv 63 (.t 0)),
 .an [77, 78] [] [65064] [] (.call 64 true [] (.c (.clo wat [])) [(.t 63), (.c (.d (.i .i64 3)))]),
 .an [77, 78] [] [] [] (.bin 65 .rem .num (.t 64) (.c (.d (.i .i64 2)))),
 .an [77, 78] [] [] [] (.bin 66 .add .num (.c (.d (.i .i64 49))) (.t 65)),
 .an [77, 78] [] [68064] [] (.call 67 true [] (.c (.clo iTick [])) [(.t 62), (.t 66)]),
 .an [77, 78, 65064, 68064] [] [] [] (.bd 68 [.d (.s []), .d (.s []), .nil THead, .d (.s [])] [(0, 1, (.c (.d (.s [80, 85, 84])))), (1, 1, (.c (.d (.s [47, 97])))), (3, 1, (.c (.d (.s [110, 101, 119]))))]),
 .an [77, 78] [] [70064] [] (.call 69 true [] (.c (.clo iDo [])) [(.t 67), (.t 68)]),
 .an [77, 78] [] [] [] (.mv 61 (.t 69)),
 .an [77, 78] [] [] [] (.ext 70 (.t 61) 0),
 .an [77, 78] [77] [] [] (.ext 71 (.t 61) 1),
 .an [78, 65064, 68064, 70064] [] [77] [] (.al 13 TSrv true),
 .an [77, 65064, 68064, 70064] [] [78] [] (.al 14 TResp true),
 .an [] [] [] [77] (.st 6 (.t 13) (.t 70)),
 .an [] [] [] [78] (.st 3 (.t 14) (.t 71))]) [.keep [14, 12, 10, 9, 8, 7, 6, 5, 4, 3, 0], .drop [77]])
 (.seq (.post (.r [.fa 72 (.t 5) 0,
 .ld 73 1 false (.t 72),
 .bin 74 .eql .num (.t 73) (.c (.d (.i .i64 201))),
 .mv 75 (.t 74),
 .gd 75 true (some 76) (.fa 76 (.t 6) 0),
 .gd 75 true (some 77) (.ld 77 1 false (.t 76)),
 .gd 75 true (some 78) (.bin 78 .eql .num (.t 77) (.c (.d (.i .i64 200)))),
 .pick 79 (.t 75) (.t 78) (.c (.d (.b false))),
 .mv 80 (.t 79),
 .gd 80 true (some 81) (.mv 81 (.t 8)),
 .pick 82 (.t 80) (.t 81) (.c (.d (.b false))),
 .mv 83 (.t 82),
 .gd 83 true (some 84) (.mv 84 (.t 7)),
 .gd 83 true (some 85) (.mv 85 (.t 3)),
 .gd 83 true (some 86) (.call 86 true [] (.c (.clo iNumText [])) [(.t 85)]),
 .gd 83 true (some 87) (.bin 87 .add .num (.c (.d (.s [60]))) (.t 86)),
 .gd 83 true (some 88) (.bin 88 .add .num (.t 87) (.c (.d (.s [62])))),
 .gd 83 true (some 89) (.bin 89 .eql .num (.t 84) (.t 88)),
 .pick 90 (.t 83) (.t 89) (.c (.d (.b false))),
 .mv 91 (.t 90),
 .gd 91 true (some 92) (.fa 92 (.t 10) 0),
 .gd 91 true (some 93) (.ld 93 1 false (.t 92)),
 .gd 91 true (some 94) (.bin 94 .eql .num (.t 93) (.c (.d (.i .i64 423)))),
 .pick 95 (.t 91) (.t 94) (.c (.d (.b false))),
 .mv 96 (.t 95),
 .gd 96 true (some 97) (.ld 97 6 true (.t 9)),
 .gd 96 true (some 98) (.ld 98 6 true (.t 4)),
 .gd 96 true (some 99) (.call 99 true [] (.c (.clo iSameSrv [])) [(.t 97), (.t 98)]),
 .pick 100 (.t 96) (.t 99) (.c (.d (.b false))),
 .mv 101 (.t 100),
 .gd 101 true (some 102) (.fa 102 (.t 12) 0),
 .gd 101 true (some 103) (.ld 103 1 false (.t 102)),
 .gd 101 true (some 104) (.bin 104 .eql .num (.t 103) (.c (.d (.i .i64 204)))),
 .pick 105 (.t 101) (.t 104) (.c (.d (.b false))),
 .mv 106 (.t 105),
 .gd 106 true (some 107) (.fa 107 (.t 14) 0),
 .gd 106 true (some 108) (.ld 108 1 false (.t 107)),
 .gd 106 true (some 109) (.bin 109 .eql .num (.t 108) (.c (.d (.i .i64 204)))),
 .gd 106 true (some 110) (.mv 110 (.t 0)),
 .gd 106 true (some 111) (.call 111 true [] (.c (.clo wat [])) [(.t 110), (.c (.d (.i .i64 3)))]),
 .gd 106 true (some 112) (.bin 112 .rem .num (.t 111) (.c (.d (.i .i64 2)))),
 .gd 106 true (some 113) (.bin 113 .eql .num (.t 112) (.c (.d (.i .i64 1)))),
 .gd 106 true (some 114) (.bin 114 .eql .flag (.t 109) (.t 113)),
 .pick 115 (.t 106) (.t 114) (.c (.d (.b false))),
 .mv 2 (.t 115)]) [.keep [2], .drop [68, 69, 70, 73, 74, 76, 78]])
 (.ret)))))))))))⟩
def wbig_m : Fn := ⟨1, [.t 2], false,
 .seq (.r [.mv 2 (.c (.d (.b false))),
 .kill [2]])
 (.seq (.r [.mv 3 (.t 0),
 .len 4 (.t 3),
 .bin 5 .gtr .num (.t 4) (.c (.d (.i .i64 1048576))),
 .mv 2 (.t 5),
 .keep [2]])
 (.ret))⟩
def wat_m : Fn := ⟨2, [.t 4], false,
 .seq (.r [.mv 4 (.c (.d (.i .i64 0))),
 .kill [4]])
 (.seq (.seq (.r [.mv 5 (.t 1),
 .mv 6 (.t 0),
 .len 7 (.t 6),
 .bin 8 .lss .num (.t 5) (.t 7),
 .kill [5, 6, 7]])
 (.cond (.t 8)
 (.pre [.kill [8]] (.seq (.r [.mv 9 (.t 0),
 .mv 10 (.t 1),
 .ia 11 1 (.t 9) (.t 10),
 .ld 12 1 false (.t 11),
 .kill [0, 1, 9, 10, 11],
 .cvi 13 .i64 (.t 12),
 .mv 4 (.t 13),
 .keep [4]])
 (.ret)))
 (.pre [.kill [8]] (.skip))))
 (.seq (.r [.mv 14 (.t 1),
 .bin 15 .mul .num (.t 14) (.c (.d (.i .i64 31))),
 .mv 16 (.t 0),
 .len 17 (.t 16),
 .bin 18 .mul .num (.t 17) (.c (.d (.i .i64 7))),
 .kill [0, 1, 14, 16, 17],
 .bin 19 .add .num (.t 15) (.t 18),
 .bin 20 .rem .num (.t 19) (.c (.d (.i .i64 256))),
 .mv 4 (.t 20),
 .keep [4]])
 (.ret)))⟩
def iDraw_m : Fn := ⟨2, [.cell 4 6 true], false,
 .seq (.r [.bx 2 TSrv true (.t 0),
 .al 4 TSrv false,
 .kill [0]])
 (.seq (.r [.ld 6 6 true (.t 2),
 .call 7 false [] (.c (.clo icopySrv [])) [(.t 6)],
 .al 5 TSrv false,
 .st 6 (.t 5) (.t 7),
 .kill [6, 7],
 .drop [8064, 8065, 8068, 8069]])
 (.seq (.seq (.r [.ld 8 6 true (.t 2),
 .call 9 true [] (.c (.clo iSrvOk [])) [(.t 8)],
 .mv 10 (.t 9),
 .gd 10 true (some 11) (.fa 11 (.t 2) 4),
 .gd 10 true (some 12) (.ld 12 1 false (.t 11)),
 .gd 10 true (some 13) (.len 13 (.t 12)),
 .kill [2, 8, 9, 11, 12],
 .gd 10 true (some 14) (.bin 14 .lss .num (.t 13) (.c (.d (.i .i64 20)))),
 .pick 15 (.t 10) (.t 14) (.c (.d (.b false))),
 .keep [15, 5, 4, 1],
 .drop [66]])
 (.cond (.t 15)
 (.pre [.kill [15]] (.r [.fa 16 (.t 5) 4,
 .ldm 17 (.t 16),
 .mv 18 (.t 1),
 .bs 19 (.int .i64) false 1 [.d (.i .i64 0)] [(0, (.t 18))],
 .app 20 (.int .i64) false 8 (.t 17) (.t 19),
 .kill [1, 16, 17, 18, 19],
 .fa 21 (.t 5) 4,
 .st 1 (.t 21) (.t 20),
 .keep [5, 4],
 .drop [81, 83, 84]]))
 (.pre [.kill [1, 15]] (.skip))))
 (.seq (.r [.ldt 22 6 true (.t 5),
 .st 6 (.t 4) (.t 22),
 .keep [4],
 .drop [69, 23064, 23065, 23068, 23069]])
 (.ret))))⟩
def iSrvNew_m : Fn := ⟨0, [.cell 0 6 true], false,
 .seq (.r [.al 0 TSrv false])
 (.seq (.r [.bd 1 [.nil TRes, .nil TLock, .d (.i .i64 0), .d (.i .i64 0), .nil (.int .i64), .nil (.int .i64)] [(3, 1, (.c (.d (.i .i64 1))))],
 .st 6 (.t 0) (.t 1),
 .kill [1]])
 (.ret))⟩
def iDo_m : Fn := ⟨2, [.cell 4 6 true, .cell 5 3 true], true,
 .seq (.r [.bx 2 TSrv true (.t 0),
 .bx 3 TReq true (.t 1),
 .al 4 TSrv true,
 .al 5 TResp false,
 .kill [0, 1]])
 (.seq (.r [.ld 8 6 true (.t 2),
 .call 9 true [] (.c (.clo icopySrv [])) [(.t 8)],
 .al 6 TSrv true,
 .st 6 (.t 6) (.t 9),
 .kill [2, 8, 9],
 .drop [66]])
 (.seq (.r [.ld 10 4 true (.t 3),
 .call 11 false [70] (.c (.clo iSrv_do [])) [(.t 6), (.t 10)],
 .al 7 TResp false,
 .st 3 (.t 7) (.t 11),
 .kill [3, 10, 11],
 .drop [67, 12065]])
 (.seq (.post (.r [.an [14064] [71] [] [] (.ld 12 6 true (.t 6)),
 .an [] [68] [14064] [71] (.ldt 13 3 true (.t 7)),
 .an [14064] [71] [] [68] (.st 6 (.t 4) (.t 12)),
 .an [] [] [14064] [69] (.st 3 (.t 5) (.t 13))]) [.keep [5, 4], .drop [70, 71, 14065]])
 (.ret))))⟩
/-- live: [1, 8, 9, 10]; objects: [] -/
def iHeadOf_l0 : C :=
 .seq (.r [.bin 11 .lss .num (.t 10) (.t 9)])
 (.seq (.cond (.t 11)
 (.pre [.kill [11]] (.skip))
 (.pre [.keep []] (.ex 0)))
 (.seq (.blk 1 (.seq (.r [.ia 12 2 (.t 8) (.t 10),
 .ld 13 2 true (.t 12),
 .al 7 THead false,
 .st 2 (.t 7) (.t 13),
 .kill [12, 13]])
 (.seq (.r [.fa 14 (.t 7) 0,
 .ld 15 1 false (.t 14),
 .mv 16 (.t 1),
 .bin 17 .eql .num (.t 15) (.t 16),
 .kill [14, 15, 16]])
 (.cond (.t 17)
 (.pre [.keep [7]] (.seq (.r [.fa 18 (.t 7) 1,
 .ld 19 1 false (.t 18),
 .mv 4 (.t 19),
 .mv 5 (.c (.d (.b true))),
 .keep [5, 4],
 .drop [71]])
 (.ret)))
 (.pre [.kill [7, 17], .drop [71]] (.skip))))))
 (.r [.bin 20 .add .num (.t 10) (.c (.d (.i .i64 1))),
 .mv 10 (.t 20),
 .kill [20]])))
def iHeadOf_m : Fn := ⟨2, [.t 4, .t 5], false,
 .seq (.r [.mv 4 (.c (.d (.s []))),
 .mv 5 (.c (.d (.b false))),
 .kill [4, 5]])
 (.seq (.seq (.r [.mv 8 (.t 0),
 .len 9 (.t 8),
 .mv 10 (.c (.d (.i .i64 0))),
 .kill [0]])
 (.blk 0 (.pre [.keep [10, 9, 8, 1]] (.loop iHeadOf_l0))))
 (.seq (.r [.mv 4 (.c (.d (.s []))),
 .mv 5 (.c (.d (.b false)))])
 (.ret)))⟩
def iTick_m : Fn := ⟨2, [.cell 4 6 true], false,
 .seq (.r [.bx 2 TSrv true (.t 0),
 .al 4 TSrv false,
 .kill [0]])
 (.seq (.r [.ld 6 6 true (.t 2),
 .call 7 false [] (.c (.clo icopySrv [])) [(.t 6)],
 .al 5 TSrv false,
 .st 6 (.t 5) (.t 7),
 .kill [6, 7],
 .drop [8064, 8065, 8068, 8069]])
 (.seq (.seq (.r [.ld 8 6 true (.t 2),
 .call 9 true [] (.c (.clo iSrvOk [])) [(.t 8)],
 .mv 10 (.t 9),
 .gd 10 true (some 11) (.mv 11 (.t 1)),
 .gd 10 true (some 12) (.fa 12 (.t 2) 2),
 .gd 10 true (some 13) (.ld 13 1 false (.t 12)),
 .gd 10 true (some 14) (.call 14 true [] (.c (.clo iin [])) [(.t 11), (.t 13), (.c (.d (.i .i64 9999999)))]),
 .kill [8, 9, 11, 12, 13],
 .pick 15 (.t 10) (.t 14) (.c (.d (.b false))),
 .keep [15, 5, 4, 2, 1]])
 (.cond (.t 15)
 (.pre [.kill [15]] (.r [.mv 16 (.t 1),
 .fa 17 (.t 2) 1,
 .ld 18 1 false (.t 17),
 .mv 19 (.t 1),
 .call 20 false [] (.c (.clo iLiveLocks [])) [(.t 18), (.t 19)],
 .kill [1, 2, 17, 18, 19],
 .fa 21 (.t 5) 2,
 .st 1 (.t 21) (.t 16),
 .fa 22 (.t 5) 1,
 .st 1 (.t 22) (.t 20),
 .keep [5, 4],
 .drop [66, 21064]]))
 (.pre [.keep [5, 4], .drop [66]] (.skip))))
 (.seq (.r [.ldt 23 6 true (.t 5),
 .st 6 (.t 4) (.t 23),
 .keep [4],
 .drop [69, 24064, 24065, 24068, 24069]])
 (.ret))))⟩
def iNumText_m : Fn := ⟨1, [.t 2], false,
 .seq (.r [.mv 2 (.c (.d (.s []))),
 .kill [2]])
 (.seq (.r [.mv 3 (.t 0),
 .mm 4 true (.t 3) (.c (.d (.i .i64 0))),
 .call 5 true [] (.c (.clo x_strconv_Itoa [])) [(.t 4)],
 .mv 2 (.t 5),
 .keep [2]])
 (.ret))⟩
def iSameSrv_m : Fn := ⟨2, [.t 4], false,
 .seq (.r [.bx 2 TSrv true (.t 0),
 .bx 3 TSrv true (.t 1),
 .mv 4 (.c (.d (.b false))),
 .keep [3, 2]])
 (.seq (.r [.fa 5 (.t 2) 0,
 .ld 6 1 false (.t 5),
 .fa 7 (.t 3) 0,
 .ld 8 1 false (.t 7),
 .call 9 true [] (.c (.clo isameTrees [])) [(.t 6), (.t 8)],
 .mv 10 (.t 9),
 .kill [5, 6, 7, 8, 9],
 .gd 10 true (some 11) (.fa 11 (.t 2) 1),
 .gd 10 true (some 12) (.ld 12 1 false (.t 11)),
 .gd 10 true (some 13) (.fa 13 (.t 3) 1),
 .gd 10 true (some 14) (.ld 14 1 false (.t 13)),
 .gd 10 true (some 15) (.call 15 true [] (.c (.clo isameLocks [])) [(.t 12), (.t 14)]),
 .pick 16 (.t 10) (.t 15) (.c (.d (.b false))),
 .kill [10, 11, 12, 13, 14, 15],
 .mv 17 (.t 16),
 .gd 17 true (some 18) (.fa 18 (.t 2) 2),
 .gd 17 true (some 19) (.ld 19 1 false (.t 18)),
 .gd 17 true (some 20) (.fa 20 (.t 3) 2),
 .gd 17 true (some 21) (.ld 21 1 false (.t 20)),
 .gd 17 true (some 22) (.bin 22 .eql .num (.t 19) (.t 21)),
 .kill [16, 18, 19, 20, 21],
 .pick 23 (.t 17) (.t 22) (.c (.d (.b false))),
 .mv 24 (.t 23),
 .gd 24 true (some 25) (.fa 25 (.t 2) 3),
 .gd 24 true (some 26) (.ld 26 1 false (.t 25)),
 .gd 24 true (some 27) (.fa 27 (.t 3) 3),
 .gd 24 true (some 28) (.ld 28 1 false (.t 27)),
 .kill [17, 22, 23, 25, 27],
 .gd 24 true (some 29) (.bin 29 .eql .num (.t 26) (.t 28)),
 .pick 30 (.t 24) (.t 29) (.c (.d (.b false))),
 .mv 31 (.t 30),
 .kill [24, 26, 28, 29, 30],
 .gd 31 true (some 32) (.fa 32 (.t 2) 4),
 .gd 31 true (some 33) (.ld 33 1 false (.t 32)),
 .gd 31 true (some 34) (.fa 34 (.t 3) 4),
 .gd 31 true (some 35) (.ld 35 1 false (.t 34)),
 .gd 31 true (some 36) (.call 36 true [] (.c (.clo isameInts [])) [(.t 33), (.t 35)]),
 .pick 37 (.t 31) (.t 36) (.c (.d (.b false))),
 .kill [31, 32, 33, 34, 35, 36],
 .mv 38 (.t 37),
 .gd 38 true (some 39) (.fa 39 (.t 2) 5),
 .gd 38 true (some 40) (.ld 40 1 false (.t 39)),
 .gd 38 true (some 41) (.fa 41 (.t 3) 5),
 .gd 38 true (some 42) (.ld 42 1 false (.t 41)),
 .kill [2, 3, 37, 39, 41],
 .gd 38 true (some 43) (.call 43 true [] (.c (.clo isameInts [])) [(.t 40), (.t 42)]),
 .pick 44 (.t 38) (.t 43) (.c (.d (.b false))),
 .mv 4 (.t 44),
 .keep [4],
 .drop [66, 67]])
 (.ret))⟩
def icopySrv_m : Fn := ⟨1, [.cell 2 6 true], false,
 .seq (.r [.bx 1 TSrv true (.t 0),
 .al 2 TSrv false,
 .kill [0]])
 (.seq (.post (.r [.fa 3 (.t 1) 0,
 .ld 4 1 false (.t 3),
 .an [] [] [6064] [] (.call 5 false [] (.c (.clo icopyTree [])) [(.t 4)]),
 .an [6064] [] [] [] (.fa 6 (.t 1) 1),
 .an [6064] [] [] [] (.ld 7 1 false (.t 6)),
 .an [] [] [9064] [] (.call 8 false [] (.c (.clo icopyLocks [])) [(.t 7)]),
 .an [6064, 9064, 16064, 19064] [] [] [] (.fa 9 (.t 1) 2),
 .an [6064, 9064, 16064, 19064] [] [] [] (.ld 10 1 false (.t 9)),
 .an [6064, 9064, 16064, 19064] [] [] [] (.fa 11 (.t 1) 3),
 .an [6064, 9064, 16064, 19064] [] [] [] (.ld 12 1 false (.t 11)),
 .an [6064, 9064] [] [] [] (.fa 13 (.t 1) 4),
 .an [6064, 9064] [] [] [] (.ld 14 1 false (.t 13)),
 .an [] [] [16064] [] (.call 15 false [] (.c (.clo icopyInts [])) [(.t 14)]),
 .an [6064, 9064, 16064] [] [] [] (.fa 16 (.t 1) 5),
 .an [6064, 9064, 16064] [] [] [] (.ld 17 1 false (.t 16)),
 .an [] [] [19064] [] (.call 18 false [] (.c (.clo icopyInts [])) [(.t 17)]),
 .bd 19 [.nil TRes, .nil TLock, .d (.i .i64 0), .d (.i .i64 0), .nil (.int .i64), .nil (.int .i64)] [(0, 1, (.t 5)), (1, 1, (.t 8)), (2, 1, (.t 10)), (3, 1, (.t 12)), (4, 1, (.t 15)), (5, 1, (.t 18))],
 .an [] [] [6064, 9064, 16064, 19064] [66] (.st 6 (.t 2) (.t 19))]) [.keep [2], .drop [65, 6064, 9064, 16064, 19064]])
 (.ret))⟩
/-- live: [1, 42, 43, 44]; objects: [65] -/
def iSrvOk_l0 : C :=
 .seq (.r [.bin 45 .lss .num (.t 44) (.t 43)])
 (.seq (.cond (.t 45)
 (.pre [.kill [45]] (.skip))
 (.pre [.keep [1]] (.ex 0)))
 (.seq (.blk 1 (.seq (.r [.ia 46 5 (.t 42) (.t 44),
 .ld 47 5 true (.t 46),
 .al 4 TRes true,
 .st 5 (.t 4) (.t 47),
 .kill [46, 47]])
 (.seq (.r [.fa 48 (.t 4) 3,
 .ld 49 1 false (.t 48),
 .fa 50 (.t 1) 3,
 .ld 51 1 false (.t 50),
 .bin 52 .geq .num (.t 49) (.t 51),
 .kill [4, 48, 49, 50, 51],
 .drop [68]])
 (.cond (.t 52)
 (.pre [.keep [], .drop [65]] (.seq (.r [.mv 2 (.c (.d (.b false)))])
 (.ret)))
 (.pre [.kill [52]] (.skip))))))
 (.r [.bin 53 .add .num (.t 44) (.c (.d (.i .i64 1))),
 .mv 44 (.t 53),
 .kill [53]])))
/-- live: [1, 55, 56, 57]; objects: [65] -/
def iSrvOk_l1 : C :=
 .seq (.r [.bin 58 .lss .num (.t 57) (.t 56)])
 (.seq (.cond (.t 58)
 (.pre [.kill [58]] (.skip))
 (.pre [.keep [], .drop [65]] (.ex 2)))
 (.seq (.blk 3 (.seq (.r [.ia 59 5 (.t 55) (.t 57),
 .ld 60 5 true (.t 59),
 .al 6 TLock true,
 .st 5 (.t 6) (.t 60),
 .kill [59, 60]])
 (.seq (.r [.fa 61 (.t 1) 5,
 .ld 62 1 false (.t 61),
 .fa 63 (.t 6) 0,
 .ld 64 1 false (.t 63),
 .call 65 true [] (.c (.clo ihasInt [])) [(.t 62), (.t 64)],
 .kill [6, 61, 62, 63, 64],
 .not 66 (.t 65),
 .keep [66, 57, 56, 55, 1],
 .drop [70]])
 (.cond (.t 66)
 (.pre [.keep [], .drop [65]] (.seq (.r [.mv 2 (.c (.d (.b false)))])
 (.ret)))
 (.pre [.kill [66]] (.skip))))))
 (.r [.bin 67 .add .num (.t 57) (.c (.d (.i .i64 1))),
 .mv 57 (.t 67),
 .kill [67]])))
def iSrvOk_m : Fn := ⟨1, [.t 2], false,
 .seq (.r [.bx 1 TSrv true (.t 0),
 .mv 2 (.c (.d (.b false))),
 .keep [1]])
 (.seq (.seq (.r [.fa 7 (.t 1) 0,
 .ld 8 1 false (.t 7),
 .call 9 true [] (.c (.clo iTreeOk [])) [(.t 8)],
 .not 10 (.t 9),
 .mv 11 (.t 10),
 .gd 11 false (some 12) (.fa 12 (.t 1) 1),
 .gd 11 false (some 13) (.ld 13 1 false (.t 12)),
 .kill [7, 8, 9, 10, 12],
 .gd 11 false (some 14) (.call 14 true [] (.c (.clo iLocksOk [])) [(.t 13)]),
 .gd 11 false (some 15) (.not 15 (.t 14)),
 .pick 16 (.t 11) (.c (.d (.b true))) (.t 15),
 .mv 17 (.t 16),
 .kill [11, 13, 14, 15, 16],
 .gd 17 false (some 18) (.fa 18 (.t 1) 2),
 .gd 17 false (some 19) (.ld 19 1 false (.t 18)),
 .gd 17 false (some 20) (.call 20 true [] (.c (.clo iin [])) [(.t 19), (.c (.d (.i .i64 0))), (.c (.d (.i .i64 9999999)))]),
 .gd 17 false (some 21) (.not 21 (.t 20)),
 .pick 22 (.t 17) (.c (.d (.b true))) (.t 21),
 .kill [17, 18, 19, 20, 21],
 .mv 23 (.t 22),
 .gd 23 false (some 24) (.fa 24 (.t 1) 3),
 .gd 23 false (some 25) (.ld 25 1 false (.t 24)),
 .gd 23 false (some 26) (.call 26 true [] (.c (.clo iin [])) [(.t 25), (.c (.d (.i .i64 1))), (.c (.d (.i .i64 100000)))]),
 .gd 23 false (some 27) (.not 27 (.t 26)),
 .pick 28 (.t 23) (.c (.d (.b true))) (.t 27),
 .kill [22, 23, 24, 25, 26, 27],
 .mv 29 (.t 28),
 .gd 29 false (some 30) (.fa 30 (.t 1) 4),
 .gd 29 false (some 31) (.ld 31 1 false (.t 30)),
 .gd 29 false (some 32) (.len 32 (.t 31)),
 .gd 29 false (some 33) (.bin 33 .gtr .num (.t 32) (.c (.d (.i .i64 20)))),
 .pick 34 (.t 29) (.c (.d (.b true))) (.t 33),
 .kill [28, 29, 30, 31, 32, 33],
 .mv 35 (.t 34),
 .gd 35 false (some 36) (.fa 36 (.t 1) 5),
 .gd 35 false (some 37) (.ld 37 1 false (.t 36)),
 .gd 35 false (some 38) (.call 38 true [] (.c (.clo iusedOk [])) [(.t 37)]),
 .gd 35 false (some 39) (.not 39 (.t 38)),
 .pick 40 (.t 35) (.c (.d (.b true))) (.t 39),
 .keep [40, 1]])
 (.cond (.t 40)
 (.pre [.keep [], .drop [65]] (.seq (.r [.mv 2 (.c (.d (.b false)))])
 (.ret)))
 (.pre [.kill [40]] (.skip))))
 (.seq (.seq (.r [.fa 41 (.t 1) 0,
 .ld 42 1 false (.t 41),
 .len 43 (.t 42),
 .mv 44 (.c (.d (.i .i64 0))),
 .kill [41]])
 (.blk 0 (.pre [.keep [44, 43, 42, 1]] (.loop iSrvOk_l0))))
 (.seq (.seq (.r [.fa 54 (.t 1) 1,
 .ld 55 1 false (.t 54),
 .len 56 (.t 55),
 .mv 57 (.c (.d (.i .i64 0))),
 .kill [54]])
 (.blk 2 (.pre [.keep [57, 56, 55, 1]] (.loop iSrvOk_l1))))
 (.seq (.r [.mv 2 (.c (.d (.b true)))])
 (.ret)))))⟩
def iSrv_do_m : Fn := ⟨2, [.cell 4 3 true], false,
 .seq (.r [.bx 3 TReq true (.t 1),
 .al 4 TResp false,
 .kill [1]])
 (.seq (.seq (.r [.mv 7 (.t 0),
 .nchk 8 (.t 7),
 .ld 9 6 true (.t 8),
 .call 10 true [] (.c (.clo iSrvOk [])) [(.t 9)],
 .not 11 (.t 10),
 .mv 12 (.t 11),
 .kill [7, 8, 9, 10, 11],
 .gd 12 false (some 13) (.ld 13 4 true (.t 3)),
 .gd 12 false (some 14) (.call 14 true [] (.c (.clo iReqOk [])) [(.t 13)]),
 .gd 12 false (some 15) (.not 15 (.t 14)),
 .pick 16 (.t 12) (.c (.d (.b true))) (.t 15),
 .keep [16, 4, 3, 0]])
 (.cond (.t 16)
 (.pre [.keep [4], .drop [67]] (.seq (.r [.call 17 false [] (.c (.clo icodeAlone [])) [(.c (.d (.i .i64 500)))],
 .st 3 (.t 4) (.t 17),
 .kill [17],
 .drop [18065]])
 (.ret)))
 (.pre [.kill [16]] (.skip))))
 (.seq (.post (.r [.an [69] [] [] [] (.mv 18 (.t 0)),
 .an [69] [] [] [] (.nchk 19 (.t 18)),
 .an [69] [] [] [] (.ld 20 6 true (.t 19)),
 .an [69] [] [] [] (.ld 21 4 true (.t 3)),
 .an [69] [] [23064] [] (.call 22 true [] (.c (.clo iAskOf [])) [(.t 20), (.t 21)]),
 .an [23064] [] [69] [] (.al 5 TAsk true),
 .an [] [] [] [69] (.st 6 (.t 5) (.t 22))]) [.keep [5, 4, 3, 0]])
 (.seq (.blk 0 (.seq (.r [.fa 24 (.t 5) 5,
 .ld 25 1 false (.t 24),
 .bin 26 .neq .num (.t 25) (.c (.d (.i .i64 0))),
 .mv 23 (.t 26),
 .kill [24, 25, 26]])
 (.cond (.t 23)
 (.pre [.keep [5, 4], .drop [67]] (.seq (.r [.fa 27 (.t 5) 5,
 .ld 28 1 false (.t 27),
 .call 29 false [] (.c (.clo icodeAlone [])) [(.t 28)],
 .st 3 (.t 4) (.t 29),
 .keep [4],
 .drop [69, 30065]])
 (.ret)))
 (.pre [.kill [23]] (.seq (.r [.fa 31 (.t 3) 0,
 .ld 32 1 false (.t 31),
 .call 33 true [] (.c (.clo iChanges [])) [(.t 32)],
 .mv 34 (.t 33),
 .gd 34 true (some 35) (.mv 35 (.t 0)),
 .gd 34 true (some 36) (.nchk 36 (.t 35)),
 .gd 34 true (some 37) (.fa 37 (.t 36) 3),
 .kill [31, 32, 33, 35, 36],
 .gd 34 true (some 38) (.ld 38 1 false (.t 37)),
 .gd 34 true (some 39) (.bin 39 .gtr .num (.t 38) (.c (.d (.i .i64 99999)))),
 .pick 40 (.t 34) (.t 39) (.c (.d (.b false))),
 .mv 30 (.t 40),
 .keep [30, 5, 4, 3, 0]])
 (.cond (.t 30)
 (.pre [.keep [4], .drop [67, 69]] (.seq (.r [.call 41 false [] (.c (.clo icodeAlone [])) [(.c (.d (.i .i64 507)))],
 .st 3 (.t 4) (.t 41),
 .kill [41],
 .drop [42065]])
 (.ret)))
 (.pre [.kill [30]] (.skip))))))))
 (.seq (.r [.mv 42 (.t 0),
 .ld 43 4 true (.t 3),
 .ld 44 6 true (.t 5),
 .call 45 false [0] (.c (.clo iSrv_method [])) [(.t 42), (.t 43), (.t 44)],
 .al 6 TResp false,
 .st 3 (.t 6) (.t 45),
 .keep [6, 4, 3, 0],
 .drop [69, 46065]])
 (.seq (.seq (.r [.fa 46 (.t 3) 0,
 .ld 47 1 false (.t 46),
 .call 48 true [] (.c (.clo iChanges [])) [(.t 47)],
 .mv 49 (.t 48),
 .gd 49 true (some 50) (.fa 50 (.t 6) 0),
 .gd 49 true (some 51) (.ld 51 1 false (.t 50)),
 .kill [3, 46, 47, 48, 50],
 .gd 49 true (some 52) (.call 52 true [] (.c (.clo iin [])) [(.t 51), (.c (.d (.i .i64 200))), (.c (.d (.i .i64 299)))]),
 .pick 53 (.t 49) (.t 52) (.c (.d (.b false))),
 .keep [53, 6, 4, 0],
 .drop [67]])
 (.cond (.t 53)
 (.pre [.kill [53]] (.r [.mv 54 (.t 0),
 .nchk 55 (.t 54),
 .fa 56 (.t 55) 3,
 .ld 57 1 false (.t 56),
 .bin 58 .add .num (.t 57) (.c (.d (.i .i64 1))),
 .nchk 59 (.t 54),
 .kill [0, 54, 55, 56, 57],
 .fa 60 (.t 59) 3,
 .st 1 (.t 60) (.t 58),
 .keep [6, 4]]))
 (.pre [.kill [0, 53]] (.skip))))
 (.seq (.r [.ldt 61 3 true (.t 6),
 .st 3 (.t 4) (.t 61),
 .keep [4],
 .drop [70, 62065]])
 (.ret)))))))⟩
def iin_m : Fn := ⟨3, [.t 6], false,
 .seq (.r [.mv 6 (.c (.d (.b false))),
 .kill [6]])
 (.seq (.r [.mv 7 (.t 0),
 .mv 8 (.t 1),
 .bin 9 .geq .num (.t 7) (.t 8),
 .mv 10 (.t 9),
 .gd 10 true (some 11) (.mv 11 (.t 0)),
 .kill [0, 1, 7, 8, 9],
 .gd 10 true (some 12) (.mv 12 (.t 2)),
 .gd 10 true (some 13) (.bin 13 .leq .num (.t 11) (.t 12)),
 .pick 14 (.t 10) (.t 13) (.c (.d (.b false))),
 .kill [2, 10, 11, 12, 13],
 .mv 6 (.t 14),
 .keep [6]])
 (.ret))⟩
def iLiveLocks_m : Fn := ⟨2, [.t 4], false,
 .seq (.r [.bx 3 (.int .i64) false (.t 1),
 .mv 4 (.c (.nil TLock)),
 .opn 4 4 false,
 .kill [1, 4],
 .drop [68]])
 (.seq (.r [.mv 5 (.t 0),
 .mkf 6 iLiveLocks_1 [(.t 3)],
 .call 7 false [] (.c (.clo ikeepLocks [])) [(.t 5), (.t 6)],
 .mv 4 (.t 7),
 .ren 8064 68,
 .keep [4],
 .drop [67, 8064]])
 (.ret))⟩
/-- live: [0, 1, 12, 13]; objects: [] -/
def isameTrees_l0 : C :=
 .seq (.r [.bin 14 .lss .num (.t 13) (.t 12)])
 (.seq (.cond (.t 14)
 (.pre [.kill [14]] (.skip))
 (.pre [.keep []] (.ex 0)))
 (.seq (.blk 1 (.seq (.r [.mv 15 (.t 13),
 .mv 5 (.t 15),
 .kill [15]])
 (.seq (.post (.r [.mv 16 (.t 0),
 .mv 17 (.t 5),
 .ia 18 5 (.t 16) (.t 17),
 .ld 19 5 true (.t 18),
 .mv 20 (.t 1),
 .mv 21 (.t 5),
 .ia 22 5 (.t 20) (.t 21),
 .ld 23 5 true (.t 22),
 .call 24 true [] (.c (.clo isameRes [])) [(.t 19), (.t 23)],
 .not 25 (.t 24)]) [.keep [25, 13, 12, 1, 0]])
 (.cond (.t 25)
 (.pre [.keep []] (.seq (.r [.mv 4 (.c (.d (.b false)))])
 (.ret)))
 (.pre [.kill [25]] (.skip))))))
 (.r [.bin 26 .add .num (.t 13) (.c (.d (.i .i64 1))),
 .mv 13 (.t 26),
 .kill [26]])))
def isameTrees_m : Fn := ⟨2, [.t 4], false,
 .seq (.r [.mv 4 (.c (.d (.b false))),
 .kill [4]])
 (.seq (.seq (.r [.mv 6 (.t 0),
 .len 7 (.t 6),
 .mv 8 (.t 1),
 .len 9 (.t 8),
 .bin 10 .neq .num (.t 7) (.t 9),
 .keep [10, 1, 0]])
 (.cond (.t 10)
 (.pre [.keep []] (.seq (.r [.mv 4 (.c (.d (.b false)))])
 (.ret)))
 (.pre [.kill [10]] (.skip))))
 (.seq (.seq (.r [.mv 11 (.t 0),
 .len 12 (.t 11),
 .mv 13 (.c (.d (.i .i64 0))),
 .kill [11]])
 (.blk 0 (.pre [.keep [13, 12, 1, 0]] (.loop isameTrees_l0))))
 (.seq (.r [.mv 4 (.c (.d (.b true)))])
 (.ret))))⟩
/-- live: [0, 1, 14, 15]; objects: [] -/
def isameLocks_l0 : C :=
 .seq (.r [.bin 16 .lss .num (.t 15) (.t 14)])
 (.seq (.cond (.t 16)
 (.pre [.kill [16]] (.skip))
 (.pre [.keep []] (.ex 0)))
 (.seq (.blk 1 (.seq (.r [.mv 17 (.t 15),
 .mv 5 (.t 17),
 .kill [17]])
 (.seq (.post (.r [.an [70, 71] [] [] [] (.mv 18 (.t 0)),
 .an [70, 71] [] [] [] (.mv 19 (.t 5)),
 .an [70, 71] [] [] [] (.ia 20 5 (.t 18) (.t 19)),
 .an [70, 71] [] [] [] (.ld 21 5 true (.t 20)),
 .an [70, 71] [70] [] [] (.mv 22 (.t 1)),
 .an [70, 71] [70] [] [] (.mv 23 (.t 5)),
 .an [70, 71] [70] [] [] (.ia 24 5 (.t 22) (.t 23)),
 .an [70, 71] [70] [] [] (.ld 25 5 true (.t 24)),
 .an [71] [] [70] [] (.al 6 TLock true),
 .an [70] [] [71] [] (.al 7 TLock true),
 .an [] [] [] [70] (.st 5 (.t 6) (.t 21)),
 .an [] [] [] [71] (.st 5 (.t 7) (.t 25))]) [.keep [15, 14, 7, 6, 1, 0]])
 (.seq (.r [.fa 26 (.t 6) 0,
 .ld 27 1 false (.t 26),
 .fa 28 (.t 7) 0,
 .ld 29 1 false (.t 28),
 .bin 30 .neq .num (.t 27) (.t 29),
 .mv 31 (.t 30),
 .kill [26, 27, 28, 29, 30],
 .gd 31 false (some 32) (.fa 32 (.t 6) 1),
 .gd 31 false (some 33) (.ld 33 1 false (.t 32)),
 .gd 31 false (some 34) (.fa 34 (.t 7) 1),
 .gd 31 false (some 35) (.ld 35 1 false (.t 34)),
 .gd 31 false (some 36) (.call 36 true [] (.c (.clo iSamePath [])) [(.t 33), (.t 35)]),
 .gd 31 false (some 37) (.not 37 (.t 36)),
 .kill [32, 33, 34, 35, 36],
 .pick 38 (.t 31) (.c (.d (.b true))) (.t 37),
 .mv 39 (.t 38),
 .gd 39 false (some 40) (.fa 40 (.t 6) 2),
 .gd 39 false (some 41) (.ld 41 1 false (.t 40)),
 .gd 39 false (some 42) (.fa 42 (.t 7) 2),
 .gd 39 false (some 43) (.ld 43 1 false (.t 42)),
 .kill [31, 37, 38, 40, 42],
 .gd 39 false (some 44) (.bin 44 .neq .flag (.t 41) (.t 43)),
 .pick 45 (.t 39) (.c (.d (.b true))) (.t 44),
 .mv 46 (.t 45),
 .kill [39, 41, 43, 44, 45],
 .gd 46 false (some 47) (.fa 47 (.t 6) 3),
 .gd 46 false (some 48) (.ld 48 1 false (.t 47)),
 .gd 46 false (some 49) (.fa 49 (.t 7) 3),
 .gd 46 false (some 50) (.ld 50 1 false (.t 49)),
 .gd 46 false (some 51) (.bin 51 .neq .flag (.t 48) (.t 50)),
 .pick 52 (.t 46) (.c (.d (.b true))) (.t 51),
 .kill [46, 47, 48, 49, 50, 51],
 .mv 53 (.t 52),
 .gd 53 false (some 54) (.fa 54 (.t 6) 4),
 .gd 53 false (some 55) (.ld 55 1 false (.t 54)),
 .gd 53 false (some 56) (.fa 56 (.t 7) 4),
 .gd 53 false (some 57) (.ld 57 1 false (.t 56)),
 .kill [6, 7, 52, 54, 56],
 .gd 53 false (some 58) (.bin 58 .neq .num (.t 55) (.t 57)),
 .pick 59 (.t 53) (.c (.d (.b true))) (.t 58),
 .keep [59, 15, 14, 1, 0],
 .drop [70, 71]])
 (.cond (.t 59)
 (.pre [.keep []] (.seq (.r [.mv 4 (.c (.d (.b false)))])
 (.ret)))
 (.pre [.kill [59]] (.skip)))))))
 (.r [.bin 60 .add .num (.t 15) (.c (.d (.i .i64 1))),
 .mv 15 (.t 60),
 .kill [60]])))
def isameLocks_m : Fn := ⟨2, [.t 4], false,
 .seq (.r [.mv 4 (.c (.d (.b false))),
 .kill [4]])
 (.seq (.seq (.r [.mv 8 (.t 0),
 .len 9 (.t 8),
 .mv 10 (.t 1),
 .len 11 (.t 10),
 .bin 12 .neq .num (.t 9) (.t 11),
 .keep [12, 1, 0]])
 (.cond (.t 12)
 (.pre [.keep []] (.seq (.r [.mv 4 (.c (.d (.b false)))])
 (.ret)))
 (.pre [.kill [12]] (.skip))))
 (.seq (.seq (.r [.mv 13 (.t 0),
 .len 14 (.t 13),
 .mv 15 (.c (.d (.i .i64 0))),
 .kill [13]])
 (.blk 0 (.pre [.keep [15, 14, 1, 0]] (.loop isameLocks_l0))))
 (.seq (.r [.mv 4 (.c (.d (.b true)))])
 (.ret))))⟩
/-- live: [0, 1, 12, 13]; objects: [] -/
def isameInts_l0 : C :=
 .seq (.r [.bin 14 .lss .num (.t 13) (.t 12)])
 (.seq (.cond (.t 14)
 (.pre [.kill [14]] (.skip))
 (.pre [.keep []] (.ex 0)))
 (.seq (.blk 1 (.seq (.r [.mv 15 (.t 13),
 .mv 5 (.t 15),
 .kill [15]])
 (.seq (.post (.r [.mv 16 (.t 0),
 .mv 17 (.t 5),
 .ia 18 1 (.t 16) (.t 17),
 .ld 19 1 false (.t 18),
 .mv 20 (.t 1),
 .mv 21 (.t 5),
 .ia 22 1 (.t 20) (.t 21),
 .ld 23 1 false (.t 22),
 .bin 24 .neq .num (.t 19) (.t 23)]) [.keep [24, 13, 12, 1, 0]])
 (.cond (.t 24)
 (.pre [.keep []] (.seq (.r [.mv 4 (.c (.d (.b false)))])
 (.ret)))
 (.pre [.kill [24]] (.skip))))))
 (.r [.bin 25 .add .num (.t 13) (.c (.d (.i .i64 1))),
 .mv 13 (.t 25),
 .kill [25]])))
def isameInts_m : Fn := ⟨2, [.t 4], false,
 .seq (.r [.mv 4 (.c (.d (.b false))),
 .kill [4]])
 (.seq (.seq (.r [.mv 6 (.t 0),
 .len 7 (.t 6),
 .mv 8 (.t 1),
 .len 9 (.t 8),
 .bin 10 .neq .num (.t 7) (.t 9),
 .keep [10, 1, 0]])
 (.cond (.t 10)
 (.pre [.keep []] (.seq (.r [.mv 4 (.c (.d (.b false)))])
 (.ret)))
 (.pre [.kill [10]] (.skip))))
 (.seq (.seq (.r [.mv 11 (.t 0),
 .len 12 (.t 11),
 .mv 13 (.c (.d (.i .i64 0))),
 .kill [11]])
 (.blk 0 (.pre [.keep [13, 12, 1, 0]] (.loop isameInts_l0))))
 (.seq (.r [.mv 4 (.c (.d (.b true)))])
 (.ret))))⟩
/-- live: [3, 6, 7, 8]; objects: [67] -/
def icopyTree_l0 : C :=
 .seq (.r [.bin 9 .lss .num (.t 8) (.t 7)])
 (.seq (.cond (.t 9)
 (.pre [.kill [9]] (.skip))
 (.pre [.keep [3]] (.ex 0)))
 (.seq (.blk 1 (.seq (.r [.ia 10 5 (.t 6) (.t 8),
 .ld 11 5 true (.t 10),
 .al 5 TRes true,
 .st 5 (.t 5) (.t 11),
 .kill [10, 11]])
 (.r [.mv 12 (.t 3),
 .ld 13 5 true (.t 5),
 .call 14 false [] (.c (.clo icopyRes [])) [(.t 13)],
 .bs 15 TRes false 1 [.nil .str, .d (.b false), .d (.s []), .d (.i .i64 0), .nil TProp] [(0, (.t 14))],
 .app 16 TRes false 80 (.t 12) (.t 15),
 .kill [3, 5, 12, 13, 14, 15],
 .mv 3 (.t 16),
 .ren 80 67,
 .keep [8, 7, 6, 3],
 .drop [69, 79, 80, 15064, 15068]])))
 (.r [.bin 17 .add .num (.t 8) (.c (.d (.i .i64 1))),
 .mv 8 (.t 17),
 .kill [17]])))
def icopyTree_m : Fn := ⟨1, [.t 2], false,
 .seq (.r [.mv 2 (.c (.nil TRes)),
 .opn 2 2 false,
 .kill [2],
 .drop [66]])
 (.seq (.r [.mv 3 (.c (.nil TRes)),
 .opn 3 3 false])
 (.seq (.seq (.r [.mv 6 (.t 0),
 .len 7 (.t 6),
 .mv 8 (.c (.d (.i .i64 0))),
 .kill [0]])
 (.blk 0 (.pre [.keep [8, 7, 6, 3]] (.loop icopyTree_l0))))
 (.seq (.r [.mv 18 (.t 3),
 .mv 2 (.t 18),
 .ren 67 66,
 .keep [2],
 .drop [67]])
 (.ret))))⟩
/-- live: [3, 6, 7, 8]; objects: [67] -/
def icopyLocks_l0 : C :=
 .seq (.r [.bin 9 .lss .num (.t 8) (.t 7)])
 (.seq (.cond (.t 9)
 (.pre [.kill [9]] (.skip))
 (.pre [.keep [3]] (.ex 0)))
 (.seq (.blk 1 (.seq (.r [.ia 10 5 (.t 6) (.t 8),
 .ld 11 5 true (.t 10),
 .al 5 TLock false,
 .stl 5 (.t 5) (.t 11),
 .kill [10, 11]])
 (.seq (.r [.fa 12 (.t 5) 1,
 .ld 13 1 false (.t 12),
 .call 14 false [] (.c (.clo icopyPath [])) [(.t 13)],
 .fa 15 (.t 5) 1,
 .st 1 (.t 15) (.t 14),
 .kill [12, 13, 14, 15],
 .drop [15064]])
 (.r [.mv 16 (.t 3),
 .ldt 17 5 true (.t 5),
 .bs 18 TLock false 1 [.d (.i .i64 0), .nil .str, .d (.b false), .d (.b false), .d (.i .i64 0)] [(0, (.t 17))],
 .app 19 TLock false 48 (.t 16) (.t 18),
 .kill [3, 5, 16, 17, 18],
 .mv 3 (.t 19),
 .ren 83 67,
 .keep [8, 7, 6, 3],
 .drop [69, 82, 83, 18065]]))))
 (.r [.bin 20 .add .num (.t 8) (.c (.d (.i .i64 1))),
 .mv 8 (.t 20),
 .kill [20]])))
def icopyLocks_m : Fn := ⟨1, [.t 2], false,
 .seq (.r [.mv 2 (.c (.nil TLock)),
 .opn 2 2 false,
 .kill [2],
 .drop [66]])
 (.seq (.r [.mv 3 (.c (.nil TLock)),
 .opn 3 3 false])
 (.seq (.seq (.r [.mv 6 (.t 0),
 .len 7 (.t 6),
 .mv 8 (.c (.d (.i .i64 0))),
 .kill [0]])
 (.blk 0 (.pre [.keep [8, 7, 6, 3]] (.loop icopyLocks_l0))))
 (.seq (.r [.mv 21 (.t 3),
 .mv 2 (.t 21),
 .ren 67 66,
 .keep [2],
 .drop [67]])
 (.ret))))⟩
def icopyInts_m : Fn := ⟨1, [.t 2], false,
 .seq (.r [.mv 2 (.c (.nil (.int .i64))),
 .opn 2 2 false,
 .kill [2],
 .drop [66]])
 (.seq (.r [.mv 3 (.t 0),
 .app 4 (.int .i64) false 8 (.c (.nil (.int .i64))) (.t 3),
 .mv 2 (.t 4),
 .ren 68 66,
 .keep [2],
 .drop [68]])
 (.ret))⟩
/-- live: [0, 5, 6, 7]; objects: [] -/
def iTreeOk_l0 : C :=
 .seq (.r [.bin 8 .lss .num (.t 7) (.t 6)])
 (.seq (.cond (.t 8)
 (.pre [.kill [8]] (.skip))
 (.pre [.keep [0]] (.ex 0)))
 (.seq (.blk 1 (.seq (.r [.mv 9 (.t 7),
 .ia 10 5 (.t 5) (.t 7),
 .ld 11 5 true (.t 10),
 .al 4 TRes true,
 .mv 3 (.t 9),
 .st 5 (.t 4) (.t 11),
 .kill [9, 10, 11]])
 (.seq (.post (.r [.ld 12 5 true (.t 4),
 .call 13 true [] (.c (.clo iresOk [])) [(.t 12)],
 .not 14 (.t 13),
 .mv 15 (.t 14),
 .gd 15 false (some 16) (.mv 16 (.t 3)),
 .gd 15 false (some 17) (.bin 17 .gtr .num (.t 16) (.c (.d (.i .i64 0)))),
 .gd 15 false (some 18) (.mv 18 (.t 17)),
 .gd 18 true (some 19) (.mv 19 (.t 0)),
 .gd 18 true (some 20) (.mv 20 (.t 3)),
 .gd 18 true (some 21) (.bin 21 .sub .num (.t 20) (.c (.d (.i .i64 1)))),
 .gd 18 true (some 22) (.ia 22 5 (.t 19) (.t 21)),
 .gd 18 true (some 23) (.fa 23 (.t 22) 0),
 .gd 18 true (some 24) (.ld 24 1 false (.t 23)),
 .gd 18 true (some 25) (.fa 25 (.t 4) 0),
 .gd 18 true (some 26) (.ld 26 1 false (.t 25)),
 .gd 18 true (some 27) (.call 27 true [] (.c (.clo iLessPath [])) [(.t 24), (.t 26)]),
 .gd 18 true (some 28) (.not 28 (.t 27)),
 .gd 15 false (some 29) (.pick 29 (.t 18) (.t 28) (.c (.d (.b false)))),
 .pick 30 (.t 15) (.c (.d (.b true))) (.t 29),
 .mv 31 (.t 30),
 .gd 31 false (some 32) (.mv 32 (.t 0)),
 .gd 31 false (some 33) (.fa 33 (.t 4) 0),
 .gd 31 false (some 34) (.ld 34 1 false (.t 33)),
 .gd 31 false (some 35) (.call 35 true [] (.c (.clo iAbove [])) [(.t 34)]),
 .gd 31 false (some 36) (.call 36 true [] (.c (.clo iIsColl [])) [(.t 32), (.t 35)]),
 .gd 31 false (some 37) (.not 37 (.t 36)),
 .pick 38 (.t 31) (.c (.d (.b true))) (.t 37)]) [.keep [38, 7, 6, 5, 0], .drop [68]])
 (.cond (.t 38)
 (.pre [.keep []] (.seq (.r [.mv 2 (.c (.d (.b false)))])
 (.ret)))
 (.pre [.kill [38]] (.skip))))))
 (.r [.bin 39 .add .num (.t 7) (.c (.d (.i .i64 1))),
 .mv 7 (.t 39),
 .kill [39]])))
def iTreeOk_m : Fn := ⟨1, [.t 2], false,
 .seq (.r [.mv 2 (.c (.d (.b false))),
 .kill [2]])
 (.seq (.seq (.r [.mv 5 (.t 0),
 .len 6 (.t 5),
 .mv 7 (.c (.d (.i .i64 0)))])
 (.blk 0 (.pre [.keep [7, 6, 5, 0]] (.loop iTreeOk_l0))))
 (.seq (.r [.mv 40 (.t 0),
 .len 41 (.t 40),
 .bin 42 .leq .num (.t 41) (.c (.d (.i .i64 12))),
 .mv 2 (.t 42),
 .keep [2]])
 (.ret)))⟩
/-- live: [0, 4, 7, 8, 9, 19, 20, 21]; objects: [68] -/
def iLocksOk_l0 : C :=
 .seq (.r [.bin 22 .lss .num (.t 21) (.t 20)])
 (.seq (.cond (.t 22)
 (.pre [.kill [22]] (.skip))
 (.pre [.keep [9, 8, 7, 0], .drop [68]] (.ex 2)))
 (.seq (.blk 3 (.seq (.r [.ia 23 5 (.t 19) (.t 21),
 .ld 24 5 true (.t 23),
 .al 6 TLock true,
 .st 5 (.t 6) (.t 24),
 .kill [23, 24]])
 (.seq (.r [.fa 25 (.t 4) 0,
 .ld 26 1 false (.t 25),
 .fa 27 (.t 6) 0,
 .ld 28 1 false (.t 27),
 .bin 29 .eql .num (.t 26) (.t 28),
 .mv 30 (.t 29),
 .kill [25, 26, 27, 28, 29],
 .gd 30 false (some 31) (.ld 31 5 true (.t 4)),
 .gd 30 false (some 32) (.ld 32 5 true (.t 6)),
 .gd 30 false (some 33) (.call 33 true [] (.c (.clo iLockClash [])) [(.t 31), (.t 32)]),
 .pick 34 (.t 30) (.c (.d (.b true))) (.t 33),
 .keep [34, 21, 20, 19, 9, 8, 7, 4, 0],
 .drop [70]])
 (.cond (.t 34)
 (.pre [.keep [], .drop [68]] (.seq (.r [.mv 2 (.c (.d (.b false)))])
 (.ret)))
 (.pre [.kill [34]] (.skip))))))
 (.r [.bin 35 .add .num (.t 21) (.c (.d (.i .i64 1))),
 .mv 21 (.t 35),
 .kill [35]])))
/-- live: [0, 7, 8, 9]; objects: [] -/
def iLocksOk_l1 : C :=
 .seq (.r [.bin 10 .lss .num (.t 9) (.t 8)])
 (.seq (.cond (.t 10)
 (.pre [.kill [10]] (.skip))
 (.pre [.keep [0]] (.ex 0)))
 (.seq (.blk 1 (.seq (.r [.mv 11 (.t 9),
 .ia 12 5 (.t 7) (.t 9),
 .ld 13 5 true (.t 12),
 .al 4 TLock true,
 .mv 3 (.t 11),
 .st 5 (.t 4) (.t 13),
 .kill [11, 12, 13]])
 (.seq (.seq (.r [.ld 14 5 true (.t 4),
 .call 15 true [] (.c (.clo iLockOk [])) [(.t 14)],
 .not 16 (.t 15),
 .kill [14, 15]])
 (.cond (.t 16)
 (.pre [.keep [], .drop [68]] (.seq (.r [.mv 2 (.c (.d (.b false)))])
 (.ret)))
 (.pre [.kill [16]] (.skip))))
 (.seq (.r [.mv 17 (.t 0),
 .mv 18 (.t 3),
 .slc 19 5 (.t 17) none (some (.t 18)),
 .len 20 (.t 19),
 .mv 21 (.c (.d (.i .i64 0))),
 .kill [3, 17, 18]])
 (.blk 2 (.pre [.keep [21, 20, 19, 9, 8, 7, 4, 0]] (.loop iLocksOk_l0)))))))
 (.r [.bin 36 .add .num (.t 9) (.c (.d (.i .i64 1))),
 .mv 9 (.t 36),
 .kill [36]])))
def iLocksOk_m : Fn := ⟨1, [.t 2], false,
 .seq (.r [.mv 2 (.c (.d (.b false))),
 .kill [2]])
 (.seq (.seq (.r [.mv 7 (.t 0),
 .len 8 (.t 7),
 .mv 9 (.c (.d (.i .i64 0)))])
 (.blk 0 (.pre [.keep [9, 8, 7, 0]] (.loop iLocksOk_l1))))
 (.seq (.r [.mv 37 (.t 0),
 .len 38 (.t 37),
 .bin 39 .leq .num (.t 38) (.c (.d (.i .i64 6))),
 .mv 2 (.t 39),
 .keep [2]])
 (.ret)))⟩
/-- live: [0, 5, 6, 7]; objects: [] -/
def iusedOk_l0 : C :=
 .seq (.r [.bin 8 .lss .num (.t 7) (.t 6)])
 (.seq (.cond (.t 8)
 (.pre [.kill [8]] (.skip))
 (.pre [.keep []] (.ex 0)))
 (.seq (.blk 1 (.seq (.r [.mv 9 (.t 7),
 .ia 10 1 (.t 5) (.t 7),
 .ld 11 1 false (.t 10),
 .mv 3 (.t 9),
 .mv 4 (.t 11),
 .kill [9, 10, 11]])
 (.seq (.r [.mv 12 (.t 4),
 .call 13 true [] (.c (.clo iin [])) [(.t 12), (.c (.d (.i .i64 1))), (.c (.d (.i .i64 9999)))],
 .not 14 (.t 13),
 .mv 15 (.t 14),
 .gd 15 false (some 16) (.mv 16 (.t 3)),
 .gd 15 false (some 17) (.bin 17 .gtr .num (.t 16) (.c (.d (.i .i64 0)))),
 .gd 15 false (some 18) (.mv 18 (.t 17)),
 .kill [12, 13, 14, 16, 17],
 .gd 18 true (some 19) (.mv 19 (.t 0)),
 .gd 18 true (some 20) (.mv 20 (.t 3)),
 .gd 18 true (some 21) (.bin 21 .sub .num (.t 20) (.c (.d (.i .i64 1)))),
 .gd 18 true (some 22) (.ia 22 1 (.t 19) (.t 21)),
 .gd 18 true (some 23) (.ld 23 1 false (.t 22)),
 .kill [3, 19, 20, 21, 22],
 .gd 18 true (some 24) (.mv 24 (.t 4)),
 .gd 18 true (some 25) (.bin 25 .geq .num (.t 23) (.t 24)),
 .gd 15 false (some 26) (.pick 26 (.t 18) (.t 25) (.c (.d (.b false)))),
 .kill [4, 18, 23, 24, 25],
 .pick 27 (.t 15) (.c (.d (.b true))) (.t 26),
 .keep [27, 7, 6, 5, 0]])
 (.cond (.t 27)
 (.pre [.keep []] (.seq (.r [.mv 2 (.c (.d (.b false)))])
 (.ret)))
 (.pre [.kill [27]] (.skip))))))
 (.r [.bin 28 .add .num (.t 7) (.c (.d (.i .i64 1))),
 .mv 7 (.t 28),
 .kill [28]])))
def iusedOk_m : Fn := ⟨1, [.t 2], false,
 .seq (.r [.mv 2 (.c (.d (.b false))),
 .kill [2]])
 (.seq (.seq (.r [.mv 5 (.t 0),
 .len 6 (.t 5),
 .mv 7 (.c (.d (.i .i64 0)))])
 (.blk 0 (.pre [.keep [7, 6, 5, 0]] (.loop iusedOk_l0))))
 (.seq (.r [.mv 2 (.c (.d (.b true)))])
 (.ret)))⟩
/-- live: [1, 7, 8, 9]; objects: [] -/
def ihasInt_l0 : C :=
 .seq (.r [.bin 10 .lss .num (.t 9) (.t 8)])
 (.seq (.cond (.t 10)
 (.pre [.kill [10]] (.skip))
 (.pre [.keep []] (.ex 0)))
 (.seq (.blk 1 (.seq (.r [.ia 11 1 (.t 7) (.t 9),
 .ld 12 1 false (.t 11),
 .mv 6 (.t 12),
 .kill [11, 12]])
 (.seq (.r [.mv 13 (.t 6),
 .mv 14 (.t 1),
 .bin 15 .eql .num (.t 13) (.t 14),
 .kill [6, 13, 14]])
 (.cond (.t 15)
 (.pre [.keep []] (.seq (.r [.mv 4 (.c (.d (.b true)))])
 (.ret)))
 (.pre [.kill [15]] (.skip))))))
 (.r [.bin 16 .add .num (.t 9) (.c (.d (.i .i64 1))),
 .mv 9 (.t 16),
 .kill [16]])))
def ihasInt_m : Fn := ⟨2, [.t 4], false,
 .seq (.r [.mv 4 (.c (.d (.b false))),
 .kill [4]])
 (.seq (.seq (.r [.mv 7 (.t 0),
 .len 8 (.t 7),
 .mv 9 (.c (.d (.i .i64 0))),
 .kill [0]])
 (.blk 0 (.pre [.keep [9, 8, 7, 1]] (.loop ihasInt_l0))))
 (.seq (.r [.mv 4 (.c (.d (.b false)))])
 (.ret)))⟩
def iReqOk_m : Fn := ⟨1, [.t 2], false,
 .seq (.r [.bx 1 TReq true (.t 0),
 .mv 2 (.c (.d (.b false))),
 .keep [1]])
 (.seq (.r [.fa 3 (.t 1) 0,
 .ld 4 1 false (.t 3),
 .fa 5 (.t 1) 1,
 .ld 6 1 false (.t 5),
 .call 7 true [] (.c (.clo ilineOk [])) [(.t 4), (.t 6)],
 .mv 8 (.t 7),
 .kill [3, 4, 5, 6, 7],
 .gd 8 true (some 9) (.fa 9 (.t 1) 2),
 .gd 8 true (some 10) (.ld 10 1 false (.t 9)),
 .gd 8 true (some 11) (.call 11 true [] (.c (.clo iheadsOk [])) [(.t 10)]),
 .pick 12 (.t 8) (.t 11) (.c (.d (.b false))),
 .mv 13 (.t 12),
 .kill [8, 9, 10, 11, 12],
 .gd 13 true (some 14) (.fa 14 (.t 1) 3),
 .gd 13 true (some 15) (.ld 15 1 false (.t 14)),
 .gd 13 true (some 16) (.lns 16 (.t 15)),
 .gd 13 true (some 17) (.bin 17 .leq .num (.t 16) (.c (.d (.i .i64 200)))),
 .pick 18 (.t 13) (.t 17) (.c (.d (.b false))),
 .kill [1, 13, 14, 15, 16, 17],
 .mv 2 (.t 18),
 .keep [2],
 .drop [65]])
 (.ret))⟩
def icodeAlone_m : Fn := ⟨1, [.cell 2 3 true], false,
 .seq (.r [.al 2 TResp false])
 (.seq (.r [.mv 3 (.t 0),
 .bd 4 [.d (.i .i64 0), .nil THead, .d (.s [])] [(0, 1, (.t 3))],
 .st 3 (.t 2) (.t 4),
 .keep [2]])
 (.ret))⟩
def iAskOf_m : Fn := ⟨2, [.cell 4 6 true], false,
 .seq (.r [.bx 2 TSrv true (.t 0),
 .bx 3 TReq true (.t 1),
 .al 4 TAsk false,
 .kill [0, 1]])
 (.seq (.r [.al 5 TAsk false])
 (.seq (.r [.fa 19 (.t 3) 1,
 .ld 20 1 false (.t 19),
 .call 21 false [] (.c (.clo iParsePath [])) [(.t 20)],
 .mv 18 (.t 21),
 .ext 22 (.t 18) 0,
 .ext 23 (.t 18) 1,
 .mv 6 (.t 22),
 .kill [18, 19, 20, 21, 22],
 .mv 7 (.t 23),
 .kill [18, 19, 20, 21, 22, 23]])
 (.seq (.r [.ld 24 4 true (.t 3),
 .call 25 true [] (.c (.clo iDepthOf [])) [(.t 24), (.c (.d (.i .i64 2)))],
 .mv 8 (.t 25),
 .kill [24, 25]])
 (.seq (.r [.fa 27 (.t 3) 2,
 .ld 28 1 false (.t 27),
 .call 29 true [] (.c (.clo iHeadOf [])) [(.t 28), (.c (.d (.s [111, 118, 101, 114, 119, 114, 105, 116, 101])))],
 .mv 26 (.t 29),
 .ext 30 (.t 26) 0,
 .ext 31 (.t 26) 1,
 .mv 9 (.t 30),
 .kill [26, 27, 28, 29, 30],
 .mv 10 (.t 31),
 .kill [10, 26, 27, 28, 29, 30, 31]])
 (.seq (.r [.mv 32 (.t 6),
 .mv 33 (.t 8),
 .bin 34 .eql .num (.t 33) (.c (.d (.i .i64 2))),
 .mv 35 (.t 9),
 .bin 36 .neq .num (.t 35) (.c (.d (.s [70]))),
 .fa 37 (.t 5) 0,
 .st 1 (.t 37) (.t 32),
 .kill [6, 9, 32, 33, 35, 37],
 .fa 38 (.t 5) 2,
 .st 1 (.t 38) (.t 34),
 .fa 39 (.t 5) 3,
 .st 1 (.t 39) (.t 36),
 .keep [8, 7, 5, 4, 3, 2],
 .drop [22064]])
 (.seq (.blk 0 (.seq (.r [.mv 41 (.t 7),
 .not 42 (.t 41),
 .mv 40 (.t 42),
 .kill [7, 41, 42]])
 (.cond (.t 40)
 (.pre [.keep [5, 4], .drop [66, 67]] (.seq (.r [.fa 43 (.t 5) 5,
 .st 1 (.t 43) (.c (.d (.i .i64 400))),
 .kill [43]])
 (.seq (.r [.ldt 44 6 true (.t 5),
 .st 6 (.t 4) (.t 44),
 .keep [4],
 .drop [69, 45064, 45065, 45068]])
 (.ret))))
 (.pre [.kill [40]] (.seq (.r [.fa 46 (.t 3) 0,
 .ld 47 1 false (.t 46),
 .call 48 true [] (.c (.clo iknownMethod [])) [(.t 47)],
 .not 49 (.t 48),
 .mv 45 (.t 49),
 .kill [46, 47, 48, 49]])
 (.cond (.t 45)
 (.pre [.keep [5, 4], .drop [66, 67]] (.seq (.r [.fa 50 (.t 5) 5,
 .st 1 (.t 50) (.c (.d (.i .i64 501))),
 .kill [50]])
 (.seq (.r [.ldt 51 6 true (.t 5),
 .st 6 (.t 4) (.t 51),
 .keep [4],
 .drop [69, 52064, 52065, 52068]])
 (.ret))))
 (.pre [.kill [45]] (.skip))))))))
 (.seq (.r [.mv 11 (.c (.d (.b true)))])
 (.seq (.seq (.r [.fa 52 (.t 3) 0,
 .ld 53 1 false (.t 52),
 .bin 54 .eql .num (.t 53) (.c (.d (.s [67, 79, 80, 89]))),
 .mv 55 (.t 54),
 .gd 55 false (some 56) (.fa 56 (.t 3) 0),
 .gd 55 false (some 57) (.ld 57 1 false (.t 56)),
 .gd 55 false (some 58) (.bin 58 .eql .num (.t 57) (.c (.d (.s [77, 79, 86, 69])))),
 .kill [52, 53, 54, 56, 57],
 .pick 59 (.t 55) (.c (.d (.b true))) (.t 58),
 .kill [52, 53, 54, 55, 56, 57, 58]])
 (.cond (.t 59)
 (.pre [.kill [11, 59]] (.seq (.r [.fa 61 (.t 3) 2,
 .ld 62 1 false (.t 61),
 .call 63 true [] (.c (.clo iHeadOf [])) [(.t 62), (.c (.d (.s [100, 101, 115, 116, 105, 110, 97, 116, 105, 111, 110])))],
 .mv 60 (.t 63),
 .ext 64 (.t 60) 0,
 .ext 65 (.t 60) 1,
 .mv 12 (.t 64),
 .kill [60, 61, 62, 63, 64],
 .mv 13 (.t 65),
 .keep [12, 8, 5, 4, 3, 2]])
 (.r [.mv 67 (.t 12),
 .call 68 false [] (.c (.clo iParsePath [])) [(.t 67)],
 .mv 66 (.t 68),
 .ext 69 (.t 66) 0,
 .ext 70 (.t 66) 1,
 .fa 71 (.t 5) 1,
 .st 1 (.t 71) (.t 69),
 .kill [12, 66, 67, 68, 69, 71],
 .mv 11 (.t 70),
 .keep [11, 8, 5, 4, 3, 2],
 .drop [69064]])))
 (.pre [.kill [59]] (.skip))))
 (.seq (.r [.fa 73 (.t 3) 2,
 .ld 74 1 false (.t 73),
 .call 75 true [] (.c (.clo iHeadOf [])) [(.t 74), (.c (.d (.s [105, 102])))],
 .mv 72 (.t 75),
 .ext 76 (.t 72) 0,
 .ext 77 (.t 72) 1,
 .mv 14 (.t 76),
 .kill [72, 73, 74, 75, 76],
 .mv 15 (.t 77),
 .kill [72, 73, 74, 75, 76, 77]])
 (.seq (.r [.mv 79 (.t 14),
 .call 80 true [] (.c (.clo iParseIf [])) [(.t 79)],
 .mv 78 (.t 80),
 .ext 81 (.t 78) 0,
 .ext 82 (.t 78) 1,
 .mv 16 (.t 81),
 .kill [14, 78, 79, 80, 81],
 .mv 17 (.t 82),
 .kill [14, 78, 79, 80, 81, 82]])
 (.seq (.seq (.r [.mv 83 (.t 11),
 .not 84 (.t 83),
 .mv 85 (.t 84),
 .gd 85 false (some 86) (.fa 86 (.t 3) 0),
 .gd 85 false (some 87) (.ld 87 1 false (.t 86)),
 .gd 85 false (some 88) (.mv 88 (.t 8)),
 .kill [8, 11, 83, 84, 86],
 .gd 85 false (some 89) (.call 89 true [] (.c (.clo idepthFits [])) [(.t 87), (.t 88)]),
 .gd 85 false (some 90) (.not 90 (.t 89)),
 .pick 91 (.t 85) (.c (.d (.b true))) (.t 90),
 .kill [85, 87, 88, 89, 90],
 .mv 92 (.t 91),
 .gd 92 false (some 93) (.mv 93 (.t 15)),
 .gd 92 false (some 94) (.mv 94 (.t 93)),
 .gd 94 true (some 95) (.mv 95 (.t 17)),
 .gd 94 true (some 96) (.not 96 (.t 95)),
 .kill [15, 17, 91, 93, 95],
 .gd 92 false (some 97) (.pick 97 (.t 94) (.t 96) (.c (.d (.b false)))),
 .pick 98 (.t 92) (.c (.d (.b true))) (.t 97),
 .keep [98, 16, 5, 4, 3, 2]])
 (.cond (.t 98)
 (.pre [.keep [5, 4], .drop [66, 67]] (.seq (.r [.fa 99 (.t 5) 5,
 .st 1 (.t 99) (.c (.d (.i .i64 400))),
 .kill [99]])
 (.seq (.r [.ldt 100 6 true (.t 5),
 .st 6 (.t 4) (.t 100),
 .keep [4],
 .drop [69, 101064, 101065, 101068]])
 (.ret))))
 (.pre [.kill [98]] (.skip))))
 (.seq (.r [.mv 101 (.t 16),
 .call 102 false [] (.c (.clo iSubmitted [])) [(.t 101)],
 .fa 103 (.t 5) 4,
 .st 1 (.t 103) (.t 102),
 .kill [16, 101, 102, 103],
 .drop [103064]])
 (.seq (.r [.ld 104 6 true (.t 2),
 .ld 105 4 true (.t 3),
 .ld 106 6 true (.t 5),
 .call 107 true [] (.c (.clo iifCode [])) [(.t 104), (.t 105), (.t 106)],
 .kill [2, 3, 104, 105, 106],
 .fa 108 (.t 5) 5,
 .st 1 (.t 108) (.t 107),
 .keep [5, 4],
 .drop [66, 67]])
 (.seq (.r [.ldt 109 6 true (.t 5),
 .st 6 (.t 4) (.t 109),
 .keep [4],
 .drop [69, 110064, 110065, 110068]])
 (.ret)))))))))))))))⟩
def iChanges_m : Fn := ⟨1, [.t 2], false,
 .seq (.r [.mv 2 (.c (.d (.b false))),
 .kill [2]])
 (.seq (.seq (.r [.mv 3 (.t 0),
 .kill [0]])
 (.blk 0 (.seq (.seq (.r [.bin 5 .eql .num (.t 3) (.c (.d (.s [80, 85, 84]))),
 .mv 4 (.t 5),
 .kill [5]])
 (.cond (.t 4)
 (.pre [.kill [3]] (.skip))
 (.pre [.kill [4]] (.seq (.r [.bin 6 .eql .num (.t 3) (.c (.d (.s [77, 75, 67, 79, 76]))),
 .mv 4 (.t 6),
 .kill [6]])
 (.cond (.t 4)
 (.pre [.kill [3]] (.skip))
 (.pre [.kill [4]] (.seq (.r [.bin 7 .eql .num (.t 3) (.c (.d (.s [68, 69, 76, 69, 84, 69]))),
 .mv 4 (.t 7),
 .kill [7]])
 (.cond (.t 4)
 (.pre [.kill [3]] (.skip))
 (.pre [.kill [4]] (.seq (.r [.bin 8 .eql .num (.t 3) (.c (.d (.s [67, 79, 80, 89]))),
 .mv 4 (.t 8),
 .kill [8]])
 (.cond (.t 4)
 (.pre [.kill [3]] (.skip))
 (.pre [.kill [4]] (.seq (.r [.bin 9 .eql .num (.t 3) (.c (.d (.s [77, 79, 86, 69]))),
 .mv 4 (.t 9),
 .kill [9]])
 (.cond (.t 4)
 (.pre [.kill [3]] (.skip))
 (.pre [.kill [4]] (.seq (.r [.bin 10 .eql .num (.t 3) (.c (.d (.s [80, 82, 79, 80, 80, 65, 84, 67, 72]))),
 .mv 4 (.t 10),
 .kill [10]])
 (.cond (.t 4)
 (.pre [.kill [3]] (.skip))
 (.pre [.kill [4]] (.seq (.r [.bin 11 .eql .num (.t 3) (.c (.d (.s [76, 79, 67, 75]))),
 .mv 4 (.t 11),
 .kill [11]])
 (.cond (.t 4)
 (.pre [.kill [3]] (.skip))
 (.pre [.kill [4]] (.r [.bin 12 .eql .num (.t 3) (.c (.d (.s [85, 78, 76, 79, 67, 75]))),
 .mv 4 (.t 12),
 .keep [4]]))))))))))))))))))))))
 (.cond (.t 4)
 (.pre [.keep []] (.seq (.r [.mv 2 (.c (.d (.b true)))])
 (.ret)))
 (.pre [.keep []] (.skip))))))
 (.seq (.r [.mv 2 (.c (.d (.b false)))])
 (.ret)))⟩
def iSrv_method_m : Fn := ⟨3, [.cell 6 3 true], false,
 .seq (.r [.bx 4 TReq true (.t 1),
 .bx 5 TAsk true (.t 2),
 .al 6 TResp false,
 .kill [1, 2]])
 (.seq (.seq (.r [.fa 7 (.t 4) 0,
 .ld 8 1 false (.t 7),
 .kill [7]])
 (.blk 0 (.seq (.r [.bin 10 .eql .num (.t 8) (.c (.d (.s [79, 80, 84, 73, 79, 78, 83]))),
 .mv 9 (.t 10),
 .kill [10]])
 (.cond (.t 9)
 (.pre [.keep [6], .drop [68, 69]] (.seq (.r [.bd 11 [.d (.s []), .d (.s [])] [(0, 1, (.c (.d (.s [100, 97, 118])))), (1, 1, (.c (.d (.s [49, 44, 32, 50]))))],
 .bs 12 THead false 1 [.d (.s []), .d (.s [])] [(0, (.t 11))],
 .bd 13 [.d (.i .i64 0), .nil THead, .d (.s [])] [(0, 1, (.c (.d (.i .i64 200)))), (1, 1, (.t 12))],
 .st 3 (.t 6) (.t 13),
 .keep [6],
 .drop [76]])
 (.ret)))
 (.pre [.kill [9]] (.seq (.seq (.r [.bin 15 .eql .num (.t 8) (.c (.d (.s [71, 69, 84]))),
 .mv 14 (.t 15),
 .kill [15]])
 (.cond (.t 14)
 (.skip)
 (.pre [.kill [14]] (.r [.bin 16 .eql .num (.t 8) (.c (.d (.s [72, 69, 65, 68]))),
 .mv 14 (.t 16),
 .kill [16]]))))
 (.cond (.t 14)
 (.pre [.kill [8, 14]] (.seq (.r [.mv 17 (.t 0),
 .ld 18 4 true (.t 4),
 .ld 19 6 true (.t 5),
 .call 20 false [] (.c (.clo iSrv_read [])) [(.t 17), (.t 18), (.t 19)],
 .kill [0, 4, 5, 17, 18, 19],
 .st 3 (.t 6) (.t 20),
 .keep [6],
 .drop [68, 69, 21065]])
 (.ret)))
 (.pre [.kill [14]] (.seq (.r [.bin 22 .eql .num (.t 8) (.c (.d (.s [80, 82, 79, 80, 80, 65, 84, 67, 72]))),
 .mv 21 (.t 22),
 .kill [22]])
 (.cond (.t 21)
 (.pre [.kill [8, 21]] (.seq (.r [.mv 23 (.t 0),
 .ld 24 4 true (.t 4),
 .ld 25 6 true (.t 5),
 .call 26 false [0] (.c (.clo iSrv_patch [])) [(.t 23), (.t 24), (.t 25)],
 .kill [0, 4, 5, 23, 24, 25],
 .st 3 (.t 6) (.t 26),
 .keep [6],
 .drop [68, 69, 27065]])
 (.ret)))
 (.pre [.kill [21]] (.seq (.r [.bin 28 .eql .num (.t 8) (.c (.d (.s [80, 82, 79, 80, 70, 73, 78, 68]))),
 .mv 27 (.t 28),
 .kill [28]])
 (.cond (.t 27)
 (.pre [.kill [8, 27]] (.seq (.post (.r [.mv 29 (.t 0),
 .nchk 30 (.t 29),
 .ld 31 6 true (.t 30),
 .fa 32 (.t 5) 0,
 .ld 33 1 false (.t 32),
 .ld 34 4 true (.t 4),
 .call 35 true [] (.c (.clo iDepthOf [])) [(.t 34), (.c (.d (.i .i64 2)))],
 .an [] [] [37064] [] (.call 36 false [] (.c (.clo iFind [])) [(.t 31), (.t 33), (.t 35)]),
 .an [] [] [37064] [70] (.st 3 (.t 6) (.t 36))]) [.keep [6], .drop [68, 69, 37065]])
 (.ret)))
 (.pre [.kill [27]] (.seq (.r [.bin 38 .eql .num (.t 8) (.c (.d (.s [76, 79, 67, 75]))),
 .mv 37 (.t 38),
 .kill [38]])
 (.cond (.t 37)
 (.pre [.kill [8, 37]] (.seq (.r [.mv 39 (.t 0),
 .ld 40 4 true (.t 4),
 .ld 41 6 true (.t 5),
 .call 42 false [0] (.c (.clo iSrv_lock [])) [(.t 39), (.t 40), (.t 41)],
 .kill [0, 4, 5, 39, 40, 41],
 .st 3 (.t 6) (.t 42),
 .keep [6],
 .drop [68, 69, 43065]])
 (.ret)))
 (.pre [.kill [37]] (.seq (.r [.bin 44 .eql .num (.t 8) (.c (.d (.s [85, 78, 76, 79, 67, 75]))),
 .mv 43 (.t 44),
 .kill [8, 44]])
 (.cond (.t 43)
 (.pre [.kill [43]] (.seq (.r [.mv 45 (.t 0),
 .ld 46 4 true (.t 4),
 .ld 47 6 true (.t 5),
 .call 48 false [0] (.c (.clo iSrv_unlock [])) [(.t 45), (.t 46), (.t 47)],
 .kill [0, 4, 5, 45, 46, 47],
 .st 3 (.t 6) (.t 48),
 .keep [6],
 .drop [68, 69, 49065]])
 (.ret)))
 (.pre [.kill [43]] (.skip)))))))))))))))))))))
 (.seq (.r [.mv 49 (.t 0),
 .ld 50 4 true (.t 4),
 .ld 51 6 true (.t 5),
 .call 52 false [0] (.c (.clo iSrv_turn [])) [(.t 49), (.t 50), (.t 51)],
 .kill [0, 4, 5, 49, 50, 51],
 .st 3 (.t 6) (.t 52),
 .keep [6],
 .drop [68, 69, 53065]])
 (.ret)))⟩
/-- live: [1, 5, 9, 10, 11]; objects: [69, 10064] -/
def ikeepLocks_l0 : C :=
 .seq (.r [.bin 12 .lss .num (.t 11) (.t 10)])
 (.seq (.cond (.t 12)
 (.pre [.kill [12]] (.skip))
 (.pre [.keep [5], .drop [10064]] (.ex 0)))
 (.seq (.blk 1 (.seq (.r [.ia 13 5 (.t 9) (.t 11),
 .ldt 14 5 true (.t 13),
 .al 7 TLock false,
 .st 5 (.t 7) (.t 14),
 .kill [13, 14],
 .drop [15065]])
 (.seq (.r [.mv 15 (.t 1),
 .ld 16 5 true (.t 7),
 .call 17 true [] (.t 15) [(.t 16)],
 .kill [15, 16]])
 (.cond (.t 17)
 (.pre [.kill [17]] (.r [.mv 18 (.t 5),
 .ldt 19 5 true (.t 7),
 .bs 20 TLock false 1 [.d (.i .i64 0), .nil .str, .d (.b false), .d (.b false), .d (.i .i64 0)] [(0, (.t 19))],
 .app 21 TLock false 48 (.t 18) (.t 20),
 .kill [5, 7, 18, 19, 20],
 .mv 5 (.t 21),
 .ren 85 69,
 .kill [7, 18, 19, 20, 21],
 .drop [71, 84, 85, 20065]]))
 (.pre [.kill [7, 17], .drop [71]] (.skip))))))
 (.r [.bin 22 .add .num (.t 11) (.c (.d (.i .i64 1))),
 .mv 11 (.t 22),
 .kill [22]])))
def ikeepLocks_m : Fn := ⟨2, [.t 4], false,
 .seq (.r [.mv 4 (.c (.nil TLock)),
 .opn 4 4 false,
 .kill [4],
 .drop [68]])
 (.seq (.r [.mv 5 (.c (.nil TLock)),
 .opn 5 5 false])
 (.seq (.seq (.r [.mv 8 (.t 0),
 .call 9 false [] (.c (.clo icopyLocks [])) [(.t 8)],
 .len 10 (.t 9),
 .mv 11 (.c (.d (.i .i64 0))),
 .kill [0, 8]])
 (.blk 0 (.pre [.keep [11, 10, 9, 5, 1]] (.loop ikeepLocks_l0))))
 (.seq (.r [.mv 23 (.t 5),
 .mv 4 (.t 23),
 .ren 69 68,
 .keep [4],
 .drop [69]])
 (.ret))))⟩
def iLiveLocks_1_m : Fn := ⟨2, [.t 3], false,
 .seq (.r [.bx 2 TLock true (.t 0),
 .mv 3 (.c (.d (.b false))),
 .kill [0, 3]])
 (.seq (.r [.fa 4 (.t 2) 4,
 .ld 5 1 false (.t 4),
 .ld 6 1 false (.t 1),
 .bin 7 .gtr .num (.t 5) (.t 6),
 .kill [1, 2, 4, 5, 6],
 .mv 3 (.t 7),
 .keep [3],
 .drop [66]])
 (.ret))⟩
/-- live: [2, 3, 44, 45]; objects: [66, 67] -/
def isameRes_l0 : C :=
 .seq (.r [.bin 46 .lss .num (.t 45) (.t 44)])
 (.seq (.cond (.t 46)
 (.pre [.kill [46]] (.skip))
 (.pre [.keep [], .drop [66, 67]] (.ex 0)))
 (.seq (.blk 1 (.seq (.r [.mv 47 (.t 45),
 .mv 5 (.t 47),
 .kill [47]])
 (.seq (.post (.r [.fa 48 (.t 2) 4,
 .ld 49 1 false (.t 48),
 .mv 50 (.t 5),
 .ia 51 3 (.t 49) (.t 50),
 .ld 52 3 true (.t 51),
 .fa 53 (.t 3) 4,
 .ld 54 1 false (.t 53),
 .mv 55 (.t 5),
 .ia 56 3 (.t 54) (.t 55),
 .ld 57 3 true (.t 56),
 .bin 58 .neq (.st [2, 2, 2]) (.t 52) (.t 57)]) [.keep [58, 45, 44, 3, 2]])
 (.cond (.t 58)
 (.pre [.keep [], .drop [66, 67]] (.seq (.r [.mv 4 (.c (.d (.b false)))])
 (.ret)))
 (.pre [.kill [58]] (.skip))))))
 (.r [.bin 59 .add .num (.t 45) (.c (.d (.i .i64 1))),
 .mv 45 (.t 59),
 .kill [59]])))
def isameRes_m : Fn := ⟨2, [.t 4], false,
 .seq (.r [.bx 2 TRes true (.t 0),
 .bx 3 TRes true (.t 1),
 .mv 4 (.c (.d (.b false))),
 .keep [3, 2]])
 (.seq (.seq (.r [.fa 6 (.t 2) 0,
 .ld 7 1 false (.t 6),
 .fa 8 (.t 3) 0,
 .ld 9 1 false (.t 8),
 .call 10 true [] (.c (.clo iSamePath [])) [(.t 7), (.t 9)],
 .not 11 (.t 10),
 .kill [6, 7, 8, 9, 10],
 .mv 12 (.t 11),
 .gd 12 false (some 13) (.fa 13 (.t 2) 1),
 .gd 12 false (some 14) (.ld 14 1 false (.t 13)),
 .gd 12 false (some 15) (.fa 15 (.t 3) 1),
 .gd 12 false (some 16) (.ld 16 1 false (.t 15)),
 .gd 12 false (some 17) (.bin 17 .neq .flag (.t 14) (.t 16)),
 .kill [11, 13, 14, 15, 16],
 .pick 18 (.t 12) (.c (.d (.b true))) (.t 17),
 .mv 19 (.t 18),
 .gd 19 false (some 20) (.fa 20 (.t 2) 2),
 .gd 19 false (some 21) (.ld 21 1 false (.t 20)),
 .gd 19 false (some 22) (.fa 22 (.t 3) 2),
 .gd 19 false (some 23) (.ld 23 1 false (.t 22)),
 .kill [12, 17, 18, 20, 22],
 .gd 19 false (some 24) (.bin 24 .neq .num (.t 21) (.t 23)),
 .pick 25 (.t 19) (.c (.d (.b true))) (.t 24),
 .mv 26 (.t 25),
 .kill [19, 21, 23, 24, 25],
 .gd 26 false (some 27) (.fa 27 (.t 2) 3),
 .gd 26 false (some 28) (.ld 28 1 false (.t 27)),
 .gd 26 false (some 29) (.fa 29 (.t 3) 3),
 .gd 26 false (some 30) (.ld 30 1 false (.t 29)),
 .gd 26 false (some 31) (.bin 31 .neq .num (.t 28) (.t 30)),
 .pick 32 (.t 26) (.c (.d (.b true))) (.t 31),
 .kill [26, 27, 28, 29, 30, 31],
 .mv 33 (.t 32),
 .gd 33 false (some 34) (.fa 34 (.t 2) 4),
 .gd 33 false (some 35) (.ld 35 1 false (.t 34)),
 .gd 33 false (some 36) (.len 36 (.t 35)),
 .gd 33 false (some 37) (.fa 37 (.t 3) 4),
 .gd 33 false (some 38) (.ld 38 1 false (.t 37)),
 .gd 33 false (some 39) (.len 39 (.t 38)),
 .kill [32, 34, 35, 37, 38],
 .gd 33 false (some 40) (.bin 40 .neq .num (.t 36) (.t 39)),
 .pick 41 (.t 33) (.c (.d (.b true))) (.t 40),
 .keep [41, 3, 2]])
 (.cond (.t 41)
 (.pre [.keep [], .drop [66, 67]] (.seq (.r [.mv 4 (.c (.d (.b false)))])
 (.ret)))
 (.pre [.kill [41]] (.skip))))
 (.seq (.seq (.r [.fa 42 (.t 2) 4,
 .ld 43 1 false (.t 42),
 .len 44 (.t 43),
 .mv 45 (.c (.d (.i .i64 0))),
 .kill [42, 43]])
 (.blk 0 (.pre [.keep [45, 44, 3, 2]] (.loop isameRes_l0))))
 (.seq (.r [.mv 4 (.c (.d (.b true)))])
 (.ret))))⟩
/-- live: [0, 1, 12, 13]; objects: [] -/
def iSamePath_l0 : C :=
 .seq (.r [.bin 14 .lss .num (.t 13) (.t 12)])
 (.seq (.cond (.t 14)
 (.pre [.kill [14]] (.skip))
 (.pre [.keep []] (.ex 0)))
 (.seq (.blk 1 (.seq (.r [.mv 15 (.t 13),
 .mv 5 (.t 15),
 .kill [15]])
 (.seq (.post (.r [.mv 16 (.t 0),
 .mv 17 (.t 5),
 .ia 18 1 (.t 16) (.t 17),
 .ld 19 1 false (.t 18),
 .mv 20 (.t 1),
 .mv 21 (.t 5),
 .ia 22 1 (.t 20) (.t 21),
 .ld 23 1 false (.t 22),
 .bin 24 .neq .num (.t 19) (.t 23)]) [.keep [24, 13, 12, 1, 0]])
 (.cond (.t 24)
 (.pre [.keep []] (.seq (.r [.mv 4 (.c (.d (.b false)))])
 (.ret)))
 (.pre [.kill [24]] (.skip))))))
 (.r [.bin 25 .add .num (.t 13) (.c (.d (.i .i64 1))),
 .mv 13 (.t 25),
 .kill [25]])))
def iSamePath_m : Fn := ⟨2, [.t 4], false,
 .seq (.r [.mv 4 (.c (.d (.b false))),
 .kill [4]])
 (.seq (.seq (.r [.mv 6 (.t 0),
 .len 7 (.t 6),
 .mv 8 (.t 1),
 .len 9 (.t 8),
 .bin 10 .neq .num (.t 7) (.t 9),
 .keep [10, 1, 0]])
 (.cond (.t 10)
 (.pre [.keep []] (.seq (.r [.mv 4 (.c (.d (.b false)))])
 (.ret)))
 (.pre [.kill [10]] (.skip))))
 (.seq (.seq (.r [.mv 11 (.t 0),
 .len 12 (.t 11),
 .mv 13 (.c (.d (.i .i64 0))),
 .kill [11]])
 (.blk 0 (.pre [.keep [13, 12, 1, 0]] (.loop iSamePath_l0))))
 (.seq (.r [.mv 4 (.c (.d (.b true)))])
 (.ret))))⟩
def icopyRes_m : Fn := ⟨1, [.cell 2 5 true], false,
 .seq (.r [.bxl 1 TRes (.t 0),
 .al 2 TRes false,
 .kill [0]])
 (.seq (.post (.r [.fa 3 (.t 1) 0,
 .ld 4 1 false (.t 3),
 .an [] [] [6064] [] (.call 5 false [] (.c (.clo icopyPath [])) [(.t 4)]),
 .an [6064] [] [] [] (.fa 6 (.t 1) 4),
 .an [6064] [] [] [] (.ld 7 1 false (.t 6)),
 .an [] [] [72] [] (.app 8 TProp false 48 (.c (.nil TProp)) (.t 7)),
 .an [72] [] [] [] (.fa 9 (.t 1) 0),
 .an [] [] [6064] [65] (.st 1 (.t 9) (.t 5)),
 .fa 10 (.t 1) 4,
 .an [] [] [72] [65] (.st 1 (.t 10) (.t 8))]) [.keep [2, 1], .drop [72, 6064]])
 (.seq (.r [.ldt 11 5 true (.t 1),
 .st 5 (.t 2) (.t 11),
 .keep [2],
 .drop [65, 12064, 12068]])
 (.ret)))⟩
def icopyPath_m : Fn := ⟨1, [.t 2], false,
 .seq (.r [.mv 2 (.c (.nil .str)),
 .opn 2 2 false,
 .kill [2],
 .drop [66]])
 (.seq (.r [.mv 3 (.t 0),
 .app 4 .str false 16 (.c (.nil .str)) (.t 3),
 .mv 2 (.t 4),
 .ren 68 66,
 .keep [2],
 .drop [68]])
 (.ret))⟩
def iresOk_m : Fn := ⟨1, [.t 2], false,
 .seq (.r [.bx 1 TRes true (.t 0),
 .mv 2 (.c (.d (.b false))),
 .keep [1]])
 (.seq (.r [.fa 3 (.t 1) 0,
 .ld 4 1 false (.t 3),
 .len 5 (.t 4),
 .bin 6 .gtr .num (.t 5) (.c (.d (.i .i64 0))),
 .mv 7 (.t 6),
 .gd 7 true (some 8) (.fa 8 (.t 1) 0),
 .gd 7 true (some 9) (.ld 9 1 false (.t 8)),
 .kill [3, 4, 5, 6, 8],
 .gd 7 true (some 10) (.call 10 true [] (.c (.clo iPathOk [])) [(.t 9)]),
 .pick 11 (.t 7) (.t 10) (.c (.d (.b false))),
 .mv 12 (.t 11),
 .gd 12 true (some 13) (.fa 13 (.t 1) 1),
 .gd 12 true (some 14) (.ld 14 1 false (.t 13)),
 .kill [7, 9, 10, 11, 13],
 .gd 12 true (some 15) (.not 15 (.t 14)),
 .gd 12 true (some 16) (.mv 16 (.t 15)),
 .gd 16 false (some 17) (.fa 17 (.t 1) 2),
 .gd 16 false (some 18) (.ld 18 1 false (.t 17)),
 .gd 16 false (some 19) (.bin 19 .eql .num (.t 18) (.c (.d (.s [])))),
 .gd 12 true (some 20) (.pick 20 (.t 16) (.c (.d (.b true))) (.t 19)),
 .kill [14, 15, 16, 17, 18, 19],
 .pick 21 (.t 12) (.t 20) (.c (.d (.b false))),
 .mv 22 (.t 21),
 .gd 22 true (some 23) (.fa 23 (.t 1) 2),
 .gd 22 true (some 24) (.ld 24 1 false (.t 23)),
 .gd 22 true (some 25) (.lns 25 (.t 24)),
 .kill [12, 20, 21, 23, 24],
 .gd 22 true (some 26) (.bin 26 .leq .num (.t 25) (.c (.d (.i .i64 200)))),
 .pick 27 (.t 22) (.t 26) (.c (.d (.b false))),
 .mv 28 (.t 27),
 .gd 28 true (some 29) (.fa 29 (.t 1) 3),
 .gd 28 true (some 30) (.ld 30 1 false (.t 29)),
 .kill [22, 25, 26, 27, 29],
 .gd 28 true (some 31) (.call 31 true [] (.c (.clo iin [])) [(.t 30), (.c (.d (.i .i64 0))), (.c (.d (.i .i64 99999)))]),
 .pick 32 (.t 28) (.t 31) (.c (.d (.b false))),
 .mv 33 (.t 32),
 .gd 33 true (some 34) (.fa 34 (.t 1) 4),
 .kill [1, 28, 30, 31, 32],
 .gd 33 true (some 35) (.ld 35 1 false (.t 34)),
 .gd 33 true (some 36) (.call 36 true [] (.c (.clo iPropsOk [])) [(.t 35)]),
 .pick 37 (.t 33) (.t 36) (.c (.d (.b false))),
 .mv 2 (.t 37),
 .keep [2],
 .drop [65]])
 (.ret))⟩
/-- live: [0, 1, 5]; objects: [] -/
def iLessPath_l0 : C :=
 .seq (.seq (.r [.mv 6 (.t 5),
 .mv 7 (.t 0),
 .len 8 (.t 7),
 .bin 9 .lss .num (.t 6) (.t 8),
 .mv 10 (.t 9),
 .gd 10 true (some 11) (.mv 11 (.t 5)),
 .gd 10 true (some 12) (.mv 12 (.t 1)),
 .gd 10 true (some 13) (.len 13 (.t 12)),
 .kill [6, 7, 8, 9, 12],
 .gd 10 true (some 14) (.bin 14 .lss .num (.t 11) (.t 13)),
 .pick 15 (.t 10) (.t 14) (.c (.d (.b false))),
 .keep [15, 5, 1, 0]])
 (.cond (.t 15)
 (.pre [.kill [15]] (.skip))
 (.pre [.kill [5, 15]] (.ex 0))))
 (.seq (.blk 1 (.seq (.post (.r [.mv 18 (.t 0),
 .mv 19 (.t 5),
 .ia 20 1 (.t 18) (.t 19),
 .ld 21 1 false (.t 20),
 .mv 22 (.t 1),
 .mv 23 (.t 5),
 .ia 24 1 (.t 22) (.t 23),
 .ld 25 1 false (.t 24),
 .bin 26 .neq .num (.t 21) (.t 25)]) [.keep [26, 5, 1, 0]])
 (.cond (.t 26)
 (.pre [.kill [26]] (.seq (.post (.r [.mv 27 (.t 0),
 .mv 28 (.t 5),
 .ia 29 1 (.t 27) (.t 28),
 .ld 30 1 false (.t 29),
 .mv 31 (.t 1),
 .mv 32 (.t 5),
 .ia 33 1 (.t 31) (.t 32),
 .ld 34 1 false (.t 33),
 .bin 35 .lss .num (.t 30) (.t 34),
 .mv 4 (.t 35)]) [.keep [4]])
 (.ret)))
 (.pre [.kill [26]] (.skip)))))
 (.r [.mv 16 (.t 5),
 .bin 17 .add .num (.t 16) (.c (.d (.i .i64 1))),
 .mv 5 (.t 17),
 .kill [16, 17]]))
def iLessPath_m : Fn := ⟨2, [.t 4], false,
 .seq (.r [.mv 4 (.c (.d (.b false))),
 .kill [4]])
 (.seq (.seq (.r [.mv 5 (.c (.d (.i .i64 0)))])
 (.blk 0 (.pre [.keep [5, 1, 0]] (.loop iLessPath_l0))))
 (.seq (.r [.mv 36 (.t 0),
 .len 37 (.t 36),
 .mv 38 (.t 1),
 .len 39 (.t 38),
 .bin 40 .lss .num (.t 37) (.t 39),
 .kill [0, 1, 36, 37, 38, 39],
 .mv 4 (.t 40),
 .keep [4]])
 (.ret)))⟩
def iIsColl_m : Fn := ⟨2, [.t 4], false,
 .seq (.r [.mv 4 (.c (.d (.b false))),
 .kill [4]])
 (.seq (.seq (.r [.mv 6 (.t 1),
 .len 7 (.t 6),
 .bin 8 .eql .num (.t 7) (.c (.d (.i .i64 0))),
 .kill [6, 7]])
 (.cond (.t 8)
 (.pre [.keep []] (.seq (.r [.mv 4 (.c (.d (.b true)))])
 (.ret)))
 (.pre [.kill [8]] (.skip))))
 (.seq (.r [.mv 9 (.t 0),
 .mv 10 (.t 1),
 .call 11 true [] (.c (.clo iFindRes [])) [(.t 9), (.t 10)],
 .mv 5 (.t 11),
 .keep [5, 0]])
 (.seq (.r [.mv 12 (.t 5),
 .bin 13 .geq .num (.t 12) (.c (.d (.i .i64 0))),
 .mv 14 (.t 13),
 .gd 14 true (some 15) (.mv 15 (.t 0)),
 .gd 14 true (some 16) (.mv 16 (.t 5)),
 .gd 14 true (some 17) (.ia 17 5 (.t 15) (.t 16)),
 .kill [0, 5, 12, 13, 15, 16],
 .gd 14 true (some 18) (.fa 18 (.t 17) 1),
 .gd 14 true (some 19) (.ld 19 1 false (.t 18)),
 .pick 20 (.t 14) (.t 19) (.c (.d (.b false))),
 .mv 4 (.t 20),
 .keep [4]])
 (.ret))))⟩
def iAbove_m : Fn := ⟨1, [.t 2], false,
 .seq (.r [.mv 2 (.c (.nil .str)),
 .opn 2 2 false,
 .kill [2],
 .drop [66]])
 (.seq (.seq (.r [.mv 3 (.t 0),
 .len 4 (.t 3),
 .bin 5 .eql .num (.t 4) (.c (.d (.i .i64 0))),
 .kill [3, 4]])
 (.cond (.t 5)
 (.pre [.keep []] (.seq (.r [.mv 2 (.c (.nil .str)),
 .opn 2 2 false])
 (.ret)))
 (.pre [.kill [5]] (.skip))))
 (.seq (.r [.mv 6 (.t 0),
 .mv 7 (.t 0),
 .len 8 (.t 7),
 .bin 9 .sub .num (.t 8) (.c (.d (.i .i64 1))),
 .slc 10 1 (.t 6) none (some (.t 9)),
 .kill [0, 6, 7, 8, 9],
 .call 11 false [] (.c (.clo icopyPath [])) [(.t 10)],
 .mv 2 (.t 11),
 .ren 12064 66,
 .keep [2],
 .drop [12064]])
 (.ret)))⟩
def iLockOk_m : Fn := ⟨1, [.t 2], false,
 .seq (.r [.bx 1 TLock true (.t 0),
 .mv 2 (.c (.d (.b false))),
 .keep [1]])
 (.seq (.r [.fa 3 (.t 1) 0,
 .ld 4 1 false (.t 3),
 .call 5 true [] (.c (.clo iin [])) [(.t 4), (.c (.d (.i .i64 1))), (.c (.d (.i .i64 9999)))],
 .mv 6 (.t 5),
 .gd 6 true (some 7) (.fa 7 (.t 1) 1),
 .gd 6 true (some 8) (.ld 8 1 false (.t 7)),
 .gd 6 true (some 9) (.call 9 true [] (.c (.clo iPathOk [])) [(.t 8)]),
 .kill [3, 4, 5, 7, 8],
 .pick 10 (.t 6) (.t 9) (.c (.d (.b false))),
 .mv 11 (.t 10),
 .gd 11 true (some 12) (.fa 12 (.t 1) 4),
 .gd 11 true (some 13) (.ld 13 1 false (.t 12)),
 .kill [1, 6, 9, 10, 12],
 .gd 11 true (some 14) (.call 14 true [] (.c (.clo iin [])) [(.t 13), (.c (.d (.i .i64 0))), (.c (.d (.i .i64 9999999)))]),
 .pick 15 (.t 11) (.t 14) (.c (.d (.b false))),
 .mv 2 (.t 15),
 .keep [2],
 .drop [65]])
 (.ret))⟩
def iLockClash_m : Fn := ⟨2, [.t 4], false,
 .seq (.r [.bx 2 TLock true (.t 0),
 .bx 3 TLock true (.t 1),
 .mv 4 (.c (.d (.b false))),
 .keep [3, 2]])
 (.seq (.r [.fa 5 (.t 2) 3,
 .ld 6 1 false (.t 5),
 .mv 7 (.t 6),
 .gd 7 true (some 8) (.fa 8 (.t 3) 3),
 .gd 7 true (some 9) (.ld 9 1 false (.t 8)),
 .pick 10 (.t 7) (.t 9) (.c (.d (.b false))),
 .kill [5, 6, 7, 8, 9],
 .not 11 (.t 10),
 .mv 12 (.t 11),
 .gd 12 true (some 13) (.ld 13 5 true (.t 2)),
 .gd 12 true (some 14) (.fa 14 (.t 3) 1),
 .gd 12 true (some 15) (.ld 15 1 false (.t 14)),
 .gd 12 true (some 16) (.call 16 true [] (.c (.clo iCovers [])) [(.t 13), (.t 15)]),
 .kill [10, 11, 13, 14, 15],
 .gd 12 true (some 17) (.mv 17 (.t 16)),
 .gd 17 false (some 18) (.ld 18 5 true (.t 3)),
 .gd 17 false (some 19) (.fa 19 (.t 2) 1),
 .gd 17 false (some 20) (.ld 20 1 false (.t 19)),
 .gd 17 false (some 21) (.call 21 true [] (.c (.clo iCovers [])) [(.t 18), (.t 20)]),
 .kill [2, 3, 16, 18, 19, 20],
 .gd 12 true (some 22) (.pick 22 (.t 17) (.c (.d (.b true))) (.t 21)),
 .pick 23 (.t 12) (.t 22) (.c (.d (.b false))),
 .mv 4 (.t 23),
 .keep [4],
 .drop [66, 67]])
 (.ret))⟩
/-- live: [0, 1, 5]; objects: [] -/
def ilineOk_l0 : C :=
 .seq (.seq (.r [.mv 6 (.t 5),
 .mv 7 (.t 0),
 .lns 8 (.t 7),
 .bin 9 .lss .num (.t 6) (.t 8),
 .kill [6, 7, 8]])
 (.cond (.t 9)
 (.pre [.kill [9]] (.skip))
 (.pre [.kill [5, 9]] (.ex 0))))
 (.seq (.blk 1 (.seq (.r [.mv 12 (.t 0),
 .mv 13 (.t 5),
 .ix 14 (.t 12) (.t 13),
 .call 15 true [] (.c (.clo iisLarge [])) [(.t 14)],
 .not 16 (.t 15),
 .kill [12, 13, 14, 15]])
 (.cond (.t 16)
 (.pre [.keep []] (.seq (.r [.mv 4 (.c (.d (.b false)))])
 (.ret)))
 (.pre [.kill [16]] (.skip)))))
 (.r [.mv 10 (.t 5),
 .bin 11 .add .num (.t 10) (.c (.d (.i .i64 1))),
 .mv 5 (.t 11),
 .kill [10, 11]]))
def ilineOk_m : Fn := ⟨2, [.t 4], false,
 .seq (.r [.mv 4 (.c (.d (.b false))),
 .kill [4]])
 (.seq (.seq (.r [.mv 5 (.c (.d (.i .i64 0)))])
 (.blk 0 (.pre [.keep [5, 1, 0]] (.loop ilineOk_l0))))
 (.seq (.r [.mv 17 (.t 0),
 .lns 18 (.t 17),
 .call 19 true [] (.c (.clo iin [])) [(.t 18), (.c (.d (.i .i64 1))), (.c (.d (.i .i64 9)))],
 .mv 20 (.t 19),
 .gd 20 true (some 21) (.mv 21 (.t 1)),
 .gd 20 true (some 22) (.lns 22 (.t 21)),
 .kill [0, 17, 18, 19, 21],
 .gd 20 true (some 23) (.call 23 true [] (.c (.clo iin [])) [(.t 22), (.c (.d (.i .i64 1))), (.c (.d (.i .i64 80)))]),
 .pick 24 (.t 20) (.t 23) (.c (.d (.b false))),
 .mv 25 (.t 24),
 .gd 25 true (some 26) (.mv 26 (.t 1)),
 .gd 25 true (some 27) (.call 27 true [] (.c (.clo iPlain [])) [(.t 26)]),
 .kill [20, 22, 23, 24, 26],
 .pick 28 (.t 25) (.t 27) (.c (.d (.b false))),
 .mv 29 (.t 28),
 .gd 29 true (some 30) (.mv 30 (.t 1)),
 .gd 29 true (some 31) (.call 31 true [] (.c (.clo x_strings_Contains [])) [(.t 30), (.c (.d (.s [32])))]),
 .kill [1, 25, 27, 28, 30],
 .gd 29 true (some 32) (.not 32 (.t 31)),
 .pick 33 (.t 29) (.t 32) (.c (.d (.b false))),
 .mv 4 (.t 33),
 .keep [4]])
 (.ret)))⟩
/-- live: [0, 5, 6, 7]; objects: [] -/
def iheadsOk_l0 : C :=
 .seq (.r [.bin 8 .lss .num (.t 7) (.t 6)])
 (.seq (.cond (.t 8)
 (.pre [.kill [8]] (.skip))
 (.pre [.keep [0]] (.ex 0)))
 (.seq (.blk 1 (.seq (.r [.ia 9 2 (.t 5) (.t 7),
 .ld 10 2 true (.t 9),
 .al 4 THead false,
 .st 2 (.t 4) (.t 10),
 .kill [9, 10]])
 (.seq (.r [.fa 11 (.t 4) 0,
 .ld 12 1 false (.t 11),
 .call 13 true [] (.c (.clo iSmallName [])) [(.t 12)],
 .not 14 (.t 13),
 .mv 15 (.t 14),
 .gd 15 false (some 16) (.fa 16 (.t 4) 1),
 .gd 15 false (some 17) (.ld 17 1 false (.t 16)),
 .kill [11, 12, 13, 14, 16],
 .gd 15 false (some 18) (.call 18 true [] (.c (.clo ivalOk [])) [(.t 17)]),
 .gd 15 false (some 19) (.not 19 (.t 18)),
 .pick 20 (.t 15) (.c (.d (.b true))) (.t 19),
 .mv 21 (.t 20),
 .kill [15, 17, 18, 19, 20],
 .gd 21 false (some 22) (.fa 22 (.t 4) 0),
 .gd 21 false (some 23) (.ld 23 1 false (.t 22)),
 .gd 21 false (some 24) (.bin 24 .eql .num (.t 23) (.c (.d (.s [99, 111, 110, 116, 101, 110, 116, 45, 108, 101, 110, 103, 116, 104])))),
 .pick 25 (.t 21) (.c (.d (.b true))) (.t 24),
 .mv 26 (.t 25),
 .kill [21, 22, 23, 24, 25],
 .gd 26 false (some 27) (.fa 27 (.t 4) 0),
 .gd 26 false (some 28) (.ld 28 1 false (.t 27)),
 .gd 26 false (some 29) (.bin 29 .eql .num (.t 28) (.c (.d (.s [116, 114, 97, 110, 115, 102, 101, 114, 45, 101, 110, 99, 111, 100, 105, 110, 103])))),
 .pick 30 (.t 26) (.c (.d (.b true))) (.t 29),
 .keep [30, 7, 6, 5, 0],
 .drop [68]])
 (.cond (.t 30)
 (.pre [.keep []] (.seq (.r [.mv 2 (.c (.d (.b false)))])
 (.ret)))
 (.pre [.kill [30]] (.skip))))))
 (.r [.bin 31 .add .num (.t 7) (.c (.d (.i .i64 1))),
 .mv 7 (.t 31),
 .kill [31]])))
def iheadsOk_m : Fn := ⟨1, [.t 2], false,
 .seq (.r [.mv 2 (.c (.d (.b false))),
 .kill [2]])
 (.seq (.seq (.r [.mv 5 (.t 0),
 .len 6 (.t 5),
 .mv 7 (.c (.d (.i .i64 0)))])
 (.blk 0 (.pre [.keep [7, 6, 5, 0]] (.loop iheadsOk_l0))))
 (.seq (.r [.mv 32 (.t 0),
 .len 33 (.t 32),
 .bin 34 .leq .num (.t 33) (.c (.d (.i .i64 8))),
 .mv 2 (.t 34),
 .keep [2]])
 (.ret)))⟩
/-- live: [4, 28, 29, 30]; objects: [68] -/
def iParsePath_l0 : C :=
 .seq (.r [.bin 31 .lss .num (.t 30) (.t 29)])
 (.seq (.cond (.t 31)
 (.pre [.kill [31]] (.skip))
 (.pre [.keep [4]] (.ex 0)))
 (.seq (.blk 1 (.seq (.r [.ia 32 1 (.t 28) (.t 30),
 .ld 33 1 false (.t 32),
 .mv 7 (.t 33),
 .kill [32, 33]])
 (.seq (.r [.mv 35 (.t 7),
 .call 36 true [] (.c (.clo iUnquote [])) [(.t 35)],
 .mv 34 (.t 36),
 .ext 37 (.t 34) 0,
 .ext 38 (.t 34) 1,
 .mv 8 (.t 37),
 .kill [7, 34, 35, 36, 37],
 .mv 9 (.t 38),
 .kill [7, 34, 35, 36, 37, 38]])
 (.blk 2 (.seq (.r [.mv 40 (.t 9),
 .not 41 (.t 40),
 .mv 42 (.t 41),
 .gd 42 false (some 43) (.mv 43 (.t 8)),
 .gd 42 false (some 44) (.bin 44 .eql .num (.t 43) (.c (.d (.s [])))),
 .pick 45 (.t 42) (.c (.d (.b true))) (.t 44),
 .kill [9, 40, 41, 42, 43, 44],
 .mv 46 (.t 45),
 .gd 46 false (some 47) (.mv 47 (.t 8)),
 .gd 46 false (some 48) (.bin 48 .eql .num (.t 47) (.c (.d (.s [46, 46])))),
 .gd 46 false (some 49) (.mv 49 (.t 48)),
 .gd 49 true (some 50) (.mv 50 (.t 4)),
 .gd 49 true (some 51) (.len 51 (.t 50)),
 .gd 49 true (some 52) (.bin 52 .eql .num (.t 51) (.c (.d (.i .i64 0)))),
 .kill [45, 47, 48, 50, 51],
 .gd 46 false (some 53) (.pick 53 (.t 49) (.t 52) (.c (.d (.b false)))),
 .pick 54 (.t 46) (.c (.d (.b true))) (.t 53),
 .mv 39 (.t 54),
 .keep [39, 30, 29, 28, 8, 4]])
 (.cond (.t 39)
 (.pre [.keep [], .drop [68]] (.seq (.r [.mv 2 (.c (.nil .str)),
 .opn 2 2 false,
 .mv 3 (.c (.d (.b false)))])
 (.ret)))
 (.pre [.kill [39]] (.seq (.r [.mv 56 (.t 8),
 .bin 57 .eql .num (.t 56) (.c (.d (.s [46, 46]))),
 .mv 55 (.t 57),
 .kill [56, 57]])
 (.cond (.t 55)
 (.pre [.kill [8, 55]] (.r [.mv 58 (.t 4),
 .mv 59 (.t 4),
 .len 60 (.t 59),
 .bin 61 .sub .num (.t 60) (.c (.d (.i .i64 1))),
 .slc 62 1 (.t 58) none (some (.t 61)),
 .kill [4, 58, 59, 60, 61],
 .mv 4 (.t 62),
 .keep [30, 29, 28, 4]]))
 (.pre [.kill [55]] (.seq (.r [.mv 64 (.t 8),
 .bin 65 .neq .num (.t 64) (.c (.d (.s [46]))),
 .mv 63 (.t 65),
 .kill [64, 65]])
 (.cond (.t 63)
 (.pre [.kill [63]] (.r [.mv 66 (.t 4),
 .mv 67 (.t 8),
 .bs 68 .str false 1 [.d (.s [])] [(0, (.t 67))],
 .app 69 .str false 16 (.t 66) (.t 68),
 .kill [4, 8, 66, 67, 68],
 .mv 4 (.t 69),
 .ren 133 68,
 .keep [30, 29, 28, 4],
 .drop [132, 133]]))
 (.pre [.kill [8, 63]] (.skip))))))))))))))
 (.r [.bin 70 .add .num (.t 30) (.c (.d (.i .i64 1))),
 .mv 30 (.t 70),
 .kill [70]])))
def iParsePath_m : Fn := ⟨1, [.t 2, .t 3], false,
 .seq (.r [.mv 2 (.c (.nil .str)),
 .opn 2 2 false,
 .mv 3 (.c (.d (.b false))),
 .keep [0],
 .drop [66]])
 (.seq (.seq (.r [.mv 10 (.t 0),
 .call 11 true [] (.c (.clo x_strings_HasPrefix [])) [(.t 10), (.c (.d (.s [47])))],
 .not 12 (.t 11),
 .kill [10, 11]])
 (.cond (.t 12)
 (.pre [.keep []] (.seq (.r [.mv 2 (.c (.nil .str)),
 .opn 2 2 false,
 .mv 3 (.c (.d (.b false)))])
 (.ret)))
 (.pre [.kill [12]] (.skip))))
 (.seq (.r [.mv 4 (.c (.nil .str)),
 .opn 4 4 false])
 (.seq (.r [.mv 13 (.t 0),
 .slc 14 0 (.t 13) (some (.c (.d (.i .i64 1)))) none,
 .call 15 true [] (.c (.clo x_strings_Split [])) [(.t 14), (.c (.d (.s [47])))],
 .mv 5 (.t 15),
 .frz 5,
 .keep [5, 4]])
 (.seq (.seq (.r [.mv 16 (.t 5),
 .mv 17 (.t 5),
 .len 18 (.t 17),
 .bin 19 .sub .num (.t 18) (.c (.d (.i .i64 1))),
 .ia 20 1 (.t 16) (.t 19),
 .ld 21 1 false (.t 20),
 .kill [16, 17, 18, 19, 20],
 .bin 22 .eql .num (.t 21) (.c (.d (.s []))),
 .keep [22, 5, 4]])
 (.cond (.t 22)
 (.pre [.kill [22]] (.r [.mv 23 (.t 5),
 .mv 24 (.t 5),
 .len 25 (.t 24),
 .bin 26 .sub .num (.t 25) (.c (.d (.i .i64 1))),
 .slc 27 1 (.t 23) none (some (.t 26)),
 .kill [5, 23, 24, 25, 26],
 .mv 5 (.t 27),
 .frz 5,
 .keep [5, 4]]))
 (.pre [.kill [22]] (.skip))))
 (.seq (.seq (.r [.mv 28 (.t 5),
 .len 29 (.t 28),
 .mv 30 (.c (.d (.i .i64 0))),
 .kill [5]])
 (.blk 0 (.pre [.keep [30, 29, 28, 4]] (.loop iParsePath_l0))))
 (.seq (.seq (.r [.mv 71 (.t 4),
 .call 72 true [] (.c (.clo iPathOk [])) [(.t 71)],
 .not 73 (.t 72),
 .kill [71, 72]])
 (.cond (.t 73)
 (.pre [.keep [], .drop [68]] (.seq (.r [.mv 2 (.c (.nil .str)),
 .opn 2 2 false,
 .mv 3 (.c (.d (.b false)))])
 (.ret)))
 (.pre [.kill [73]] (.skip))))
 (.seq (.r [.mv 74 (.t 4),
 .mv 2 (.t 74),
 .ren 68 66,
 .mv 3 (.c (.d (.b true))),
 .kill [4, 74],
 .drop [68]])
 (.ret))))))))⟩
def iDepthOf_m : Fn := ⟨2, [.t 4], false,
 .seq (.r [.bx 2 TReq true (.t 0),
 .mv 4 (.c (.d (.i .i64 0))),
 .kill [0, 4]])
 (.seq (.r [.fa 8 (.t 2) 2,
 .ld 9 1 false (.t 8),
 .call 10 true [] (.c (.clo iHeadOf [])) [(.t 9), (.c (.d (.s [100, 101, 112, 116, 104])))],
 .mv 7 (.t 10),
 .ext 11 (.t 7) 0,
 .ext 12 (.t 7) 1,
 .kill [2, 7, 8, 9, 10],
 .mv 5 (.t 11),
 .mv 6 (.t 12),
 .keep [6, 5, 1],
 .drop [66]])
 (.seq (.blk 0 (.seq (.r [.mv 14 (.t 6),
 .not 15 (.t 14),
 .mv 13 (.t 15),
 .kill [6, 14, 15]])
 (.cond (.t 13)
 (.pre [.keep [1]] (.seq (.r [.mv 16 (.t 1),
 .mv 4 (.t 16),
 .keep [4]])
 (.ret)))
 (.pre [.keep [5]] (.seq (.r [.mv 18 (.t 5),
 .bin 19 .eql .num (.t 18) (.c (.d (.s [48]))),
 .mv 17 (.t 19),
 .kill [18, 19]])
 (.cond (.t 17)
 (.pre [.keep []] (.seq (.r [.mv 4 (.c (.d (.i .i64 0)))])
 (.ret)))
 (.pre [.kill [17]] (.seq (.r [.mv 21 (.t 5),
 .bin 22 .eql .num (.t 21) (.c (.d (.s [49]))),
 .mv 20 (.t 22),
 .kill [21, 22]])
 (.cond (.t 20)
 (.pre [.keep []] (.seq (.r [.mv 4 (.c (.d (.i .i64 1)))])
 (.ret)))
 (.pre [.kill [20]] (.seq (.r [.mv 24 (.t 5),
 .call 25 true [] (.c (.clo iLower [])) [(.t 24)],
 .bin 26 .eql .num (.t 25) (.c (.d (.s [105, 110, 102, 105, 110, 105, 116, 121]))),
 .mv 23 (.t 26),
 .keep [23]])
 (.cond (.t 23)
 (.pre [.keep []] (.seq (.r [.mv 4 (.c (.d (.i .i64 2)))])
 (.ret)))
 (.pre [.keep []] (.skip))))))))))))))
 (.seq (.r [.mv 4 (.c (.d (.i .i64 (-1))))])
 (.ret))))⟩
def iknownMethod_m : Fn := ⟨1, [.t 2], false,
 .seq (.r [.mv 2 (.c (.d (.b false))),
 .kill [2]])
 (.seq (.r [.mv 3 (.t 0),
 .call 4 true [] (.c (.clo iChanges [])) [(.t 3)],
 .mv 5 (.t 4),
 .gd 5 false (some 6) (.mv 6 (.t 0)),
 .gd 5 false (some 7) (.bin 7 .eql .num (.t 6) (.c (.d (.s [71, 69, 84])))),
 .pick 8 (.t 5) (.c (.d (.b true))) (.t 7),
 .kill [3, 4, 5, 6, 7],
 .mv 9 (.t 8),
 .gd 9 false (some 10) (.mv 10 (.t 0)),
 .gd 9 false (some 11) (.bin 11 .eql .num (.t 10) (.c (.d (.s [72, 69, 65, 68])))),
 .pick 12 (.t 9) (.c (.d (.b true))) (.t 11),
 .mv 13 (.t 12),
 .kill [8, 9, 10, 11, 12],
 .gd 13 false (some 14) (.mv 14 (.t 0)),
 .gd 13 false (some 15) (.bin 15 .eql .num (.t 14) (.c (.d (.s [79, 80, 84, 73, 79, 78, 83])))),
 .pick 16 (.t 13) (.c (.d (.b true))) (.t 15),
 .mv 17 (.t 16),
 .gd 17 false (some 18) (.mv 18 (.t 0)),
 .kill [0, 13, 14, 15, 16],
 .gd 17 false (some 19) (.bin 19 .eql .num (.t 18) (.c (.d (.s [80, 82, 79, 80, 70, 73, 78, 68])))),
 .pick 20 (.t 17) (.c (.d (.b true))) (.t 19),
 .mv 2 (.t 20),
 .keep [2]])
 (.ret))⟩
/-- live: [0, 4]; objects: [68] -/
def iParseIf_l0 : C :=
 .blk 1 (.seq (.r [.mv 9 (.t 0),
 .call 10 false [] (.c (.clo ilistAt [])) [(.t 9)],
 .mv 8 (.t 10),
 .ext 11 (.t 8) 0,
 .ext 12 (.t 8) 1,
 .ext 13 (.t 8) 2,
 .mv 5 (.t 11),
 .kill [0, 8, 9, 10, 11],
 .mv 6 (.t 12),
 .mv 7 (.t 13),
 .keep [7, 6, 5, 4]])
 (.seq (.seq (.r [.mv 14 (.t 7),
 .not 15 (.t 14),
 .mv 16 (.t 15),
 .gd 16 false (some 17) (.mv 17 (.t 4)),
 .gd 16 false (some 18) (.len 18 (.t 17)),
 .gd 16 false (some 19) (.bin 19 .geq .num (.t 18) (.c (.d (.i .i64 4)))),
 .kill [7, 14, 15, 17, 18],
 .pick 20 (.t 16) (.c (.d (.b true))) (.t 19),
 .keep [20, 6, 5, 4]])
 (.cond (.t 20)
 (.pre [.keep [], .drop [68, 11064]] (.seq (.r [.mv 2 (.c (.nil (.sl TCond))),
 .opn 2 2 false,
 .mv 3 (.c (.d (.b false)))])
 (.ret)))
 (.pre [.kill [20]] (.skip))))
 (.seq (.r [.mv 21 (.t 4),
 .mv 22 (.t 5),
 .bs 23 (.sl TCond) false 1 [.nil TCond] [(0, (.t 22))],
 .app 24 (.sl TCond) false 24 (.t 21) (.t 23),
 .kill [4, 5, 21, 22, 23],
 .mv 4 (.t 24),
 .ren 88 68,
 .keep [6, 4],
 .drop [87, 88, 11064]])
 (.seq (.seq (.r [.mv 25 (.t 6),
 .bin 26 .eql .num (.t 25) (.c (.d (.s []))),
 .kill [25]])
 (.cond (.t 26)
 (.pre [.keep [4]] (.seq (.r [.mv 27 (.t 4),
 .mv 2 (.t 27),
 .ren 68 66,
 .mv 3 (.c (.d (.b true))),
 .kill [4, 27],
 .drop [68]])
 (.ret)))
 (.pre [.kill [26]] (.skip))))
 (.r [.mv 28 (.t 6),
 .call 29 true [] (.c (.clo x_strings_TrimLeft [])) [(.t 28), (.c (.d (.s [32])))],
 .mv 0 (.t 29),
 .keep [4, 0]])))))
def iParseIf_m : Fn := ⟨1, [.t 2, .t 3], false,
 .seq (.r [.mv 2 (.c (.nil (.sl TCond))),
 .opn 2 2 false,
 .mv 3 (.c (.d (.b false))),
 .keep [0],
 .drop [66]])
 (.seq (.r [.mv 4 (.c (.nil (.sl TCond))),
 .opn 4 4 false])
 (.blk 0 (.pre [.keep [4, 0]] (.loop iParseIf_l0))))⟩
def idepthFits_m : Fn := ⟨2, [.t 4], false,
 .seq (.r [.mv 4 (.c (.d (.b false))),
 .kill [4]])
 (.seq (.seq (.r [.mv 5 (.t 1)])
 (.blk 0 (.seq (.r [.bin 7 .eql .num (.t 5) (.c (.d (.i .i64 0))),
 .mv 6 (.t 7),
 .kill [7]])
 (.cond (.t 6)
 (.pre [.keep [0]] (.seq (.r [.mv 8 (.t 0),
 .bin 9 .neq .num (.t 8) (.c (.d (.s [77, 79, 86, 69]))),
 .mv 10 (.t 9),
 .gd 10 true (some 11) (.mv 11 (.t 0)),
 .gd 10 true (some 12) (.bin 12 .neq .num (.t 11) (.c (.d (.s [68, 69, 76, 69, 84, 69])))),
 .pick 13 (.t 10) (.t 12) (.c (.d (.b false))),
 .kill [0, 8, 9, 10, 11, 12],
 .mv 4 (.t 13),
 .keep [4]])
 (.ret)))
 (.pre [.kill [6]] (.seq (.r [.bin 15 .eql .num (.t 5) (.c (.d (.i .i64 1))),
 .mv 14 (.t 15),
 .kill [5, 15]])
 (.cond (.t 14)
 (.pre [.keep [0]] (.seq (.r [.mv 16 (.t 0),
 .bin 17 .eql .num (.t 16) (.c (.d (.s [80, 82, 79, 80, 70, 73, 78, 68]))),
 .mv 4 (.t 17),
 .keep [4]])
 (.ret)))
 (.pre [.keep [1]] (.skip)))))))))
 (.seq (.r [.mv 18 (.t 1),
 .bin 19 .eql .num (.t 18) (.c (.d (.i .i64 2))),
 .mv 4 (.t 19),
 .keep [4]])
 (.ret)))⟩
/-- live: [3, 8, 9, 10, 14, 15, 16]; objects: [67] -/
def iSubmitted_l0 : C :=
 .seq (.r [.bin 17 .lss .num (.t 16) (.t 15)])
 (.seq (.cond (.t 17)
 (.pre [.kill [17]] (.skip))
 (.pre [.kill [14, 15, 16, 17]] (.ex 2)))
 (.seq (.blk 3 (.seq (.r [.ia 18 3 (.t 14) (.t 16),
 .ld 19 3 true (.t 18),
 .al 7 TCond false,
 .st 3 (.t 7) (.t 19),
 .kill [18, 19]])
 (.seq (.r [.fa 20 (.t 7) 1,
 .ld 21 1 false (.t 20),
 .bin 22 .neq .num (.t 21) (.c (.d (.i .i64 0))),
 .mv 23 (.t 22),
 .gd 23 true (some 24) (.fa 24 (.t 7) 0),
 .gd 23 true (some 25) (.ld 25 1 false (.t 24)),
 .gd 23 true (some 26) (.not 26 (.t 25)),
 .kill [20, 21, 22, 24, 25],
 .pick 27 (.t 23) (.t 26) (.c (.d (.b false))),
 .kill [20, 21, 22, 23, 24, 25, 26]])
 (.cond (.t 27)
 (.pre [.kill [27]] (.r [.mv 28 (.t 3),
 .fa 29 (.t 7) 1,
 .ld 30 1 false (.t 29),
 .bs 31 (.int .i64) false 1 [.d (.i .i64 0)] [(0, (.t 30))],
 .app 32 (.int .i64) false 8 (.t 28) (.t 31),
 .kill [3, 7, 28, 29, 30, 31],
 .mv 3 (.t 32),
 .ren 96 67,
 .kill [7, 28, 29, 30, 31, 32],
 .drop [71, 95, 96]]))
 (.pre [.kill [7, 27], .drop [71]] (.skip))))))
 (.r [.bin 33 .add .num (.t 16) (.c (.d (.i .i64 1))),
 .mv 16 (.t 33),
 .kill [33]])))
/-- live: [3, 8, 9, 10]; objects: [67] -/
def iSubmitted_l1 : C :=
 .seq (.r [.bin 11 .lss .num (.t 10) (.t 9)])
 (.seq (.cond (.t 11)
 (.pre [.kill [11]] (.skip))
 (.pre [.keep [3]] (.ex 0)))
 (.seq (.blk 1 (.seq (.r [.ia 12 1 (.t 8) (.t 10),
 .ld 13 1 false (.t 12),
 .mv 5 (.t 13),
 .kill [12, 13]])
 (.seq (.r [.mv 14 (.t 5),
 .len 15 (.t 14),
 .mv 16 (.c (.d (.i .i64 0))),
 .kill [5]])
 (.blk 2 (.pre [.keep [16, 15, 14, 10, 9, 8, 3]] (.loop iSubmitted_l0))))))
 (.r [.bin 34 .add .num (.t 10) (.c (.d (.i .i64 1))),
 .mv 10 (.t 34),
 .kill [34]])))
def iSubmitted_m : Fn := ⟨1, [.t 2], false,
 .seq (.r [.mv 2 (.c (.nil (.int .i64))),
 .opn 2 2 false,
 .kill [2],
 .drop [66]])
 (.seq (.r [.mv 3 (.c (.nil (.int .i64))),
 .opn 3 3 false])
 (.seq (.seq (.r [.mv 8 (.t 0),
 .len 9 (.t 8),
 .mv 10 (.c (.d (.i .i64 0))),
 .kill [0]])
 (.blk 0 (.pre [.keep [10, 9, 8, 3]] (.loop iSubmitted_l1))))
 (.seq (.r [.mv 35 (.t 3),
 .mv 2 (.t 35),
 .ren 67 66,
 .keep [2],
 .drop [67]])
 (.ret))))⟩
def iifCode_m : Fn := ⟨3, [.t 6], false,
 .seq (.r [.bx 3 TSrv true (.t 0),
 .bx 4 TReq true (.t 1),
 .bx 5 TAsk true (.t 2),
 .mv 6 (.c (.d (.i .i64 0))),
 .keep [5, 4, 3]])
 (.seq (.r [.ld 18 6 true (.t 3),
 .fa 19 (.t 5) 0,
 .ld 20 1 false (.t 19),
 .call 21 true [] (.c (.clo iTagAt [])) [(.t 18), (.t 20)],
 .mv 17 (.t 21),
 .ext 22 (.t 17) 0,
 .ext 23 (.t 17) 1,
 .kill [17, 18, 19, 20, 21],
 .mv 7 (.t 22),
 .mv 8 (.t 23),
 .keep [8, 7, 5, 4, 3]])
 (.seq (.seq (.r [.fa 25 (.t 4) 2,
 .ld 26 1 false (.t 25),
 .call 27 true [] (.c (.clo iHeadOf [])) [(.t 26), (.c (.d (.s [105, 102])))],
 .mv 24 (.t 27),
 .ext 28 (.t 24) 0,
 .ext 29 (.t 24) 1,
 .mv 9 (.t 28),
 .kill [24, 25, 26, 27, 28],
 .mv 10 (.t 29),
 .kill [24, 25, 26, 27, 28, 29]])
 (.seq (.r [.mv 30 (.t 10),
 .kill [10]])
 (.cond (.t 30)
 (.pre [.kill [30]] (.seq (.r [.mv 32 (.t 9),
 .call 33 true [] (.c (.clo iParseIf [])) [(.t 32)],
 .mv 31 (.t 33),
 .ext 34 (.t 31) 0,
 .ext 35 (.t 31) 1,
 .mv 11 (.t 34),
 .kill [9, 31, 32, 33, 34],
 .mv 12 (.t 35),
 .keep [11, 8, 7, 5, 4, 3]])
 (.seq (.r [.mv 36 (.t 11),
 .fa 37 (.t 3) 1,
 .ld 38 1 false (.t 37),
 .fa 39 (.t 5) 0,
 .ld 40 1 false (.t 39),
 .call 41 true [] (.c (.clo iTokensAt [])) [(.t 38), (.t 40)],
 .kill [11, 37, 38, 39, 40],
 .mv 42 (.t 7),
 .call 43 true [] (.c (.clo iEvalIf [])) [(.t 36), (.t 41), (.t 42)],
 .not 44 (.t 43),
 .keep [44, 8, 7, 5, 4, 3]])
 (.cond (.t 44)
 (.pre [.keep [], .drop [67, 68, 69]] (.seq (.r [.mv 6 (.c (.d (.i .i64 412)))])
 (.ret)))
 (.pre [.kill [44]] (.skip))))))
 (.pre [.kill [9, 30]] (.skip)))))
 (.seq (.seq (.r [.fa 46 (.t 4) 2,
 .ld 47 1 false (.t 46),
 .call 48 true [] (.c (.clo iHeadOf [])) [(.t 47), (.c (.d (.s [105, 102, 45, 109, 97, 116, 99, 104])))],
 .mv 45 (.t 48),
 .ext 49 (.t 45) 0,
 .ext 50 (.t 45) 1,
 .mv 13 (.t 49),
 .kill [45, 46, 47, 48, 49],
 .mv 14 (.t 50),
 .kill [45, 46, 47, 48, 49, 50]])
 (.seq (.r [.mv 51 (.t 14),
 .mv 52 (.t 51),
 .gd 52 true (some 53) (.mv 53 (.t 13)),
 .gd 52 true (some 54) (.mv 54 (.t 8)),
 .gd 52 true (some 55) (.mv 55 (.t 7)),
 .gd 52 true (some 56) (.call 56 true [] (.c (.clo iMatchOk [])) [(.t 53), (.t 54), (.t 55)]),
 .kill [13, 14, 51, 53, 54, 55],
 .gd 52 true (some 57) (.not 57 (.t 56)),
 .pick 58 (.t 52) (.t 57) (.c (.d (.b false))),
 .keep [58, 8, 7, 5, 4, 3]])
 (.cond (.t 58)
 (.pre [.keep [], .drop [67, 68, 69]] (.seq (.r [.mv 6 (.c (.d (.i .i64 412)))])
 (.ret)))
 (.pre [.kill [58]] (.skip)))))
 (.seq (.seq (.r [.fa 60 (.t 4) 2,
 .ld 61 1 false (.t 60),
 .call 62 true [] (.c (.clo iHeadOf [])) [(.t 61), (.c (.d (.s [105, 102, 45, 110, 111, 110, 101, 45, 109, 97, 116, 99, 104])))],
 .mv 59 (.t 62),
 .ext 63 (.t 59) 0,
 .ext 64 (.t 59) 1,
 .mv 15 (.t 63),
 .kill [59, 60, 61, 62, 63],
 .mv 16 (.t 64),
 .kill [59, 60, 61, 62, 63, 64]])
 (.seq (.r [.mv 65 (.t 16),
 .mv 66 (.t 65),
 .gd 66 true (some 67) (.mv 67 (.t 15)),
 .gd 66 true (some 68) (.mv 68 (.t 8)),
 .gd 66 true (some 69) (.mv 69 (.t 7)),
 .kill [7, 8, 15, 16, 65],
 .gd 66 true (some 70) (.call 70 true [] (.c (.clo iNoneOk [])) [(.t 67), (.t 68), (.t 69)]),
 .gd 66 true (some 71) (.not 71 (.t 70)),
 .pick 72 (.t 66) (.t 71) (.c (.d (.b false))),
 .keep [72, 5, 4, 3]])
 (.cond (.t 72)
 (.pre [.keep [4], .drop [67, 69]] (.seq (.seq (.r [.fa 73 (.t 4) 0,
 .ld 74 1 false (.t 73),
 .bin 75 .eql .num (.t 74) (.c (.d (.s [71, 69, 84]))),
 .mv 76 (.t 75),
 .gd 76 false (some 77) (.fa 77 (.t 4) 0),
 .gd 76 false (some 78) (.ld 78 1 false (.t 77)),
 .kill [4, 73, 74, 75, 77],
 .gd 76 false (some 79) (.bin 79 .eql .num (.t 78) (.c (.d (.s [72, 69, 65, 68])))),
 .pick 80 (.t 76) (.c (.d (.b true))) (.t 79),
 .keep [80],
 .drop [68]])
 (.cond (.t 80)
 (.pre [.keep []] (.seq (.r [.mv 6 (.c (.d (.i .i64 304)))])
 (.ret)))
 (.pre [.keep []] (.skip))))
 (.seq (.r [.mv 6 (.c (.d (.i .i64 412)))])
 (.ret))))
 (.pre [.kill [72]] (.skip)))))
 (.seq (.seq (.r [.ld 81 6 true (.t 3),
 .fa 82 (.t 4) 0,
 .ld 83 1 false (.t 82),
 .ld 84 6 true (.t 5),
 .call 85 true [] (.c (.clo iMayChange [])) [(.t 81), (.t 83), (.t 84)],
 .kill [3, 4, 5, 81, 82, 83, 84],
 .not 86 (.t 85),
 .keep [86],
 .drop [67, 68, 69]])
 (.cond (.t 86)
 (.pre [.keep []] (.seq (.r [.mv 6 (.c (.d (.i .i64 423)))])
 (.ret)))
 (.pre [.keep []] (.skip))))
 (.seq (.r [.mv 6 (.c (.d (.i .i64 0)))])
 (.ret)))))))⟩
def iSrv_read_m : Fn := ⟨3, [.cell 6 3 true], false,
 .seq (.r [.bx 4 TReq true (.t 1),
 .bx 5 TAsk true (.t 2),
 .al 6 TResp false,
 .kill [1, 2]])
 (.seq (.post (.r [.mv 11 (.t 0),
 .nchk 12 (.t 11),
 .ld 13 6 true (.t 12),
 .fa 14 (.t 5) 0,
 .ld 15 1 false (.t 14),
 .call 16 true [] (.c (.clo iTagAt [])) [(.t 13), (.t 15)],
 .mv 10 (.t 16),
 .ext 17 (.t 10) 0,
 .ext 18 (.t 10) 1,
 .mv 7 (.t 17),
 .mv 8 (.t 18)]) [.keep [8, 7, 6, 5, 4, 0]])
 (.seq (.blk 0 (.seq (.r [.mv 20 (.t 8),
 .not 21 (.t 20),
 .mv 19 (.t 21),
 .kill [8, 20, 21]])
 (.cond (.t 19)
 (.pre [.keep [6], .drop [68, 69]] (.seq (.r [.call 22 false [] (.c (.clo icodeAlone [])) [(.c (.d (.i .i64 404)))],
 .st 3 (.t 6) (.t 22),
 .kill [22],
 .drop [23065]])
 (.ret)))
 (.pre [.kill [19]] (.seq (.post (.r [.mv 24 (.t 0),
 .nchk 25 (.t 24),
 .fa 26 (.t 25) 0,
 .ld 27 1 false (.t 26),
 .fa 28 (.t 5) 0,
 .ld 29 1 false (.t 28),
 .call 30 true [] (.c (.clo iIsColl [])) [(.t 27), (.t 29)],
 .mv 23 (.t 30)]) [.keep [23, 7, 6, 5, 4, 0]])
 (.cond (.t 23)
 (.pre [.keep [6], .drop [68, 69]] (.seq (.r [.call 31 false [] (.c (.clo icodeAlone [])) [(.c (.d (.i .i64 405)))],
 .st 3 (.t 6) (.t 31),
 .kill [31],
 .drop [32065]])
 (.ret)))
 (.pre [.kill [23]] (.skip))))))))
 (.seq (.r [.mv 32 (.t 7),
 .call 33 false [] (.c (.clo ietag [])) [(.c (.d (.i .i64 200))), (.t 32)],
 .al 9 TResp false,
 .st 3 (.t 9) (.t 33),
 .kill [7, 32, 33],
 .drop [34065]])
 (.seq (.seq (.r [.fa 34 (.t 4) 0,
 .ld 35 1 false (.t 34),
 .bin 36 .eql .num (.t 35) (.c (.d (.s [71, 69, 84]))),
 .kill [4, 34, 35],
 .drop [68]])
 (.cond (.t 36)
 (.pre [.kill [36]] (.post (.r [.mv 37 (.t 0),
 .nchk 38 (.t 37),
 .fa 39 (.t 38) 0,
 .ld 40 1 false (.t 39),
 .mv 41 (.t 0),
 .nchk 42 (.t 41),
 .fa 43 (.t 42) 0,
 .ld 44 1 false (.t 43),
 .fa 45 (.t 5) 0,
 .ld 46 1 false (.t 45),
 .call 47 true [] (.c (.clo iFindRes [])) [(.t 44), (.t 46)],
 .ia 48 5 (.t 40) (.t 47),
 .fa 49 (.t 48) 2,
 .ld 50 1 false (.t 49),
 .fa 51 (.t 9) 2,
 .an [] [] [] [73] (.st 1 (.t 51) (.t 50))]) [.keep [9, 6], .drop [69]]))
 (.pre [.keep [9, 6], .drop [69]] (.skip))))
 (.seq (.r [.ldt 52 3 true (.t 9),
 .st 3 (.t 6) (.t 52),
 .keep [6],
 .drop [73, 53065]])
 (.ret))))))⟩
def iSrv_patch_m : Fn := ⟨3, [.cell 6 3 true], false,
 .seq (.r [.bx 4 TReq true (.t 1),
 .bx 5 TAsk true (.t 2),
 .al 6 TResp false,
 .kill [1, 2]])
 (.seq (.r [.fa 14 (.t 4) 3,
 .ld 15 1 false (.t 14),
 .call 16 false [] (.c (.clo iParseNode [])) [(.t 15)],
 .mv 13 (.t 16),
 .ext 17 (.t 13) 0,
 .ext 18 (.t 13) 1,
 .kill [4, 13, 14, 15, 16],
 .al 7 .node false,
 .st 4 (.t 7) (.t 17),
 .mv 8 (.t 18),
 .keep [8, 7, 6, 5, 0],
 .drop [68, 17067]])
 (.seq (.r [.ld 20 4 true (.t 7),
 .call 21 true [] (.c (.clo iSetsOf [])) [(.t 20)],
 .mv 19 (.t 21),
 .ext 22 (.t 19) 0,
 .ext 23 (.t 19) 1,
 .mv 9 (.t 22),
 .kill [7, 19, 20, 21, 22],
 .mv 10 (.t 23),
 .kill [7, 19, 20, 21, 22, 23],
 .drop [71]])
 (.seq (.seq (.r [.mv 24 (.t 8),
 .not 25 (.t 24),
 .mv 26 (.t 25),
 .gd 26 false (some 27) (.mv 27 (.t 10)),
 .gd 26 false (some 28) (.not 28 (.t 27)),
 .kill [8, 10, 24, 25, 27],
 .pick 29 (.t 26) (.c (.d (.b true))) (.t 28),
 .keep [29, 9, 6, 5, 0]])
 (.cond (.t 29)
 (.pre [.keep [6], .drop [69]] (.seq (.r [.call 30 false [] (.c (.clo icodeAlone [])) [(.c (.d (.i .i64 400)))],
 .st 3 (.t 6) (.t 30),
 .kill [30],
 .drop [31065]])
 (.ret)))
 (.pre [.kill [29]] (.skip))))
 (.seq (.post (.r [.mv 32 (.t 0),
 .nchk 33 (.t 32),
 .fa 34 (.t 33) 0,
 .ld 35 1 false (.t 34),
 .fa 36 (.t 5) 0,
 .ld 37 1 false (.t 36),
 .mv 38 (.t 9),
 .an [] [] [40064] [] (.call 39 false [] (.c (.clo iPatch [])) [(.t 35), (.t 37), (.t 38)]),
 .mv 31 (.t 39),
 .ext 40 (.t 31) 0,
 .ext 41 (.t 31) 1,
 .mv 11 (.t 40),
 .mv 12 (.t 41)]) [.keep [12, 11, 6, 0], .drop [69]])
 (.seq (.r [.mv 42 (.t 0),
 .mv 43 (.t 11),
 .nchk 44 (.t 42),
 .fa 45 (.t 44) 0,
 .st 1 (.t 45) (.t 43),
 .keep [12, 6],
 .drop [40064]])
 (.seq (.r [.mv 46 (.t 12),
 .call 47 false [] (.c (.clo icodeAlone [])) [(.t 46)],
 .st 3 (.t 6) (.t 47),
 .keep [6],
 .drop [48065]])
 (.ret)))))))⟩
def iFind_m : Fn := ⟨3, [.cell 6 3 true], false,
 .seq (.r [.bx 3 TSrv true (.t 0),
 .al 6 TResp false,
 .kill [0]])
 (.seq (.seq (.r [.ld 13 6 true (.t 3),
 .mv 14 (.t 1),
 .call 15 true [] (.c (.clo iTagAt [])) [(.t 13), (.t 14)],
 .mv 12 (.t 15),
 .ext 16 (.t 12) 0,
 .ext 17 (.t 12) 1,
 .mv 7 (.t 16),
 .kill [7, 12, 13, 14, 15, 16],
 .mv 8 (.t 17),
 .keep [8, 6, 3, 2, 1]])
 (.seq (.r [.mv 18 (.t 8),
 .not 19 (.t 18),
 .kill [8, 18]])
 (.cond (.t 19)
 (.pre [.keep [6], .drop [67]] (.seq (.r [.call 20 false [] (.c (.clo icodeAlone [])) [(.c (.d (.i .i64 404)))],
 .st 3 (.t 6) (.t 20),
 .kill [20],
 .drop [21065]])
 (.ret)))
 (.pre [.kill [19]] (.skip)))))
 (.seq (.r [.mv 9 (.c (.nil TProp)),
 .frz 9])
 (.seq (.seq (.r [.fa 21 (.t 3) 0,
 .ld 22 1 false (.t 21),
 .mv 23 (.t 1),
 .call 24 true [] (.c (.clo iFindRes [])) [(.t 22), (.t 23)],
 .mv 10 (.t 24),
 .kill [21, 22, 23, 24]])
 (.seq (.r [.mv 25 (.t 10),
 .bin 26 .geq .num (.t 25) (.c (.d (.i .i64 0))),
 .mv 27 (.t 26),
 .gd 27 true (some 28) (.mv 28 (.t 2)),
 .gd 27 true (some 29) (.bin 29 .eql .num (.t 28) (.c (.d (.i .i64 0)))),
 .pick 30 (.t 27) (.t 29) (.c (.d (.b false))),
 .kill [25, 26, 27, 28, 29]])
 (.cond (.t 30)
 (.pre [.kill [9, 30]] (.r [.fa 31 (.t 3) 0,
 .ld 32 1 false (.t 31),
 .mv 33 (.t 10),
 .ia 34 5 (.t 32) (.t 33),
 .fa 35 (.t 34) 4,
 .kill [10, 31, 32, 33, 34],
 .ld 36 1 false (.t 35),
 .mv 9 (.t 36),
 .frz 9,
 .keep [9, 6, 3, 2, 1]]))
 (.pre [.kill [10, 30]] (.skip)))))
 (.seq (.r [.ld 37 6 true (.t 3),
 .mv 38 (.t 1),
 .mv 39 (.t 2),
 .call 40 true [] (.c (.clo iItemsOf [])) [(.t 37), (.t 38), (.t 39)],
 .kill [1, 2, 3, 37, 38, 39],
 .mv 41 (.t 9),
 .call 42 true [] (.c (.clo iMultiNode [])) [(.t 40), (.t 41)],
 .call 43 true [] (.c (.clo iNodeText [])) [(.t 42)],
 .mv 11 (.t 43),
 .keep [11, 6],
 .drop [67]])
 (.seq (.seq (.r [.mv 44 (.t 11),
 .lns 45 (.t 44),
 .call 46 true [] (.c (.clo iin [])) [(.t 45), (.c (.d (.i .i64 1))), (.c (.d (.i .i64 400)))],
 .not 47 (.t 46),
 .kill [44, 45, 46]])
 (.cond (.t 47)
 (.pre [.keep [6]] (.seq (.r [.call 48 false [] (.c (.clo icodeAlone [])) [(.c (.d (.i .i64 507)))],
 .st 3 (.t 6) (.t 48),
 .kill [48],
 .drop [49065]])
 (.ret)))
 (.pre [.kill [47]] (.skip))))
 (.seq (.r [.mv 49 (.t 11),
 .bd 50 [.d (.i .i64 0), .nil THead, .d (.s [])] [(0, 1, (.c (.d (.i .i64 207)))), (2, 1, (.t 49))],
 .st 3 (.t 6) (.t 50),
 .keep [6]])
 (.ret)))))))⟩
def iSrv_lock_m : Fn := ⟨3, [.cell 6 3 true], false,
 .seq (.r [.bx 4 TReq true (.t 1),
 .bx 5 TAsk true (.t 2),
 .al 6 TResp false,
 .kill [1, 2]])
 (.seq (.post (.r [.mv 16 (.t 0),
 .nchk 17 (.t 16),
 .ld 18 6 true (.t 17),
 .fa 19 (.t 5) 0,
 .ld 20 1 false (.t 19),
 .call 21 true [] (.c (.clo iTagAt [])) [(.t 18), (.t 20)],
 .mv 15 (.t 21),
 .ext 22 (.t 15) 0,
 .ext 23 (.t 15) 1,
 .mv 7 (.t 22),
 .mv 8 (.t 23)]) [.keep [8, 6, 5, 4, 0]])
 (.seq (.r [.ld 25 4 true (.t 4),
 .call 26 true [] (.c (.clo ilockHeads [])) [(.t 25)],
 .mv 24 (.t 26),
 .ext 27 (.t 24) 0,
 .ext 28 (.t 24) 1,
 .ext 29 (.t 24) 2,
 .mv 9 (.t 27),
 .kill [4, 24, 25, 26, 27],
 .mv 10 (.t 28),
 .mv 11 (.t 29),
 .kill [4, 24, 25, 26, 27, 28, 29],
 .drop [68]])
 (.seq (.blk 0 (.seq (.r [.mv 31 (.t 8),
 .not 32 (.t 31),
 .mv 30 (.t 32),
 .kill [8, 31, 32]])
 (.cond (.t 30)
 (.pre [.keep [6], .drop [69]] (.seq (.r [.call 33 false [] (.c (.clo icodeAlone [])) [(.c (.d (.i .i64 404)))],
 .st 3 (.t 6) (.t 33),
 .kill [33],
 .drop [34065]])
 (.ret)))
 (.pre [.kill [30]] (.seq (.r [.mv 35 (.t 11),
 .not 36 (.t 35),
 .mv 34 (.t 36),
 .kill [11, 35, 36]])
 (.cond (.t 34)
 (.pre [.keep [6], .drop [69]] (.seq (.r [.call 37 false [] (.c (.clo icodeAlone [])) [(.c (.d (.i .i64 400)))],
 .st 3 (.t 6) (.t 37),
 .kill [37],
 .drop [38065]])
 (.ret)))
 (.pre [.kill [34]] (.seq (.r [.mv 39 (.t 0),
 .nchk 40 (.t 39),
 .fa 41 (.t 40) 2,
 .ld 42 1 false (.t 41),
 .bin 43 .eql .num (.t 42) (.c (.d (.i .i64 9999999))),
 .mv 38 (.t 43),
 .kill [39, 40, 41, 42, 43]])
 (.cond (.t 38)
 (.pre [.keep [6], .drop [69]] (.seq (.r [.call 44 false [] (.c (.clo icodeAlone [])) [(.c (.d (.i .i64 507)))],
 .st 3 (.t 6) (.t 44),
 .kill [44],
 .drop [45065]])
 (.ret)))
 (.pre [.kill [38]] (.seq (.r [.mv 46 (.t 0),
 .nchk 47 (.t 46),
 .fa 48 (.t 47) 4,
 .ld 49 1 false (.t 48),
 .len 50 (.t 49),
 .bin 51 .eql .num (.t 50) (.c (.d (.i .i64 0))),
 .kill [46, 47, 48, 49, 50],
 .mv 45 (.t 51),
 .kill [46, 47, 48, 49, 50, 51]])
 (.cond (.t 45)
 (.pre [.keep [6], .drop [69]] (.seq (.r [.call 52 false [] (.c (.clo icodeAlone [])) [(.c (.d (.i .i64 500)))],
 .st 3 (.t 6) (.t 52),
 .kill [52],
 .drop [53065]])
 (.ret)))
 (.pre [.kill [45]] (.skip))))))))))))))
 (.seq (.r [.mv 53 (.t 0),
 .nchk 54 (.t 53),
 .fa 55 (.t 54) 4,
 .ld 56 1 false (.t 55),
 .ia 57 1 (.t 56) (.c (.d (.i .i64 0))),
 .ld 58 1 false (.t 57),
 .kill [53, 54, 55, 56, 57],
 .mv 12 (.t 58),
 .kill [53, 54, 55, 56, 57, 58]])
 (.seq (.r [.mv 59 (.t 0),
 .mv 60 (.t 0),
 .nchk 61 (.t 60),
 .fa 62 (.t 61) 4,
 .ld 63 1 false (.t 62),
 .slc 64 1 (.t 63) (some (.c (.d (.i .i64 1)))) none,
 .call 65 false [] (.c (.clo icopyInts [])) [(.t 64)],
 .kill [60, 61, 62, 63, 64],
 .nchk 66 (.t 59),
 .fa 67 (.t 66) 4,
 .st 1 (.t 67) (.t 65),
 .keep [12, 10, 9, 6, 5, 0],
 .drop [66064]])
 (.seq (.seq (.r [.mv 68 (.t 12),
 .call 69 true [] (.c (.clo iin [])) [(.t 68), (.c (.d (.i .i64 1))), (.c (.d (.i .i64 9999)))],
 .not 70 (.t 69),
 .mv 71 (.t 70),
 .gd 71 false (some 72) (.mv 72 (.t 0)),
 .gd 71 false (some 73) (.nchk 73 (.t 72)),
 .gd 71 false (some 74) (.fa 74 (.t 73) 5),
 .kill [68, 69, 70, 72, 73],
 .gd 71 false (some 75) (.ld 75 1 false (.t 74)),
 .gd 71 false (some 76) (.mv 76 (.t 12)),
 .gd 71 false (some 77) (.call 77 true [] (.c (.clo ihasInt [])) [(.t 75), (.t 76)]),
 .pick 78 (.t 71) (.c (.d (.b true))) (.t 77),
 .keep [78, 12, 10, 9, 6, 5, 0]])
 (.cond (.t 78)
 (.pre [.keep [6], .drop [69]] (.seq (.r [.call 79 false [] (.c (.clo icodeAlone [])) [(.c (.d (.i .i64 500)))],
 .st 3 (.t 6) (.t 79),
 .kill [79],
 .drop [80065]])
 (.ret)))
 (.pre [.kill [78]] (.skip))))
 (.seq (.post (.r [.mv 81 (.t 0),
 .nchk 82 (.t 81),
 .fa 83 (.t 82) 1,
 .ld 84 1 false (.t 83),
 .mv 85 (.t 12),
 .fa 86 (.t 5) 0,
 .ld 87 1 false (.t 86),
 .fa 88 (.t 5) 2,
 .ld 89 1 false (.t 88),
 .mv 90 (.t 10),
 .mv 91 (.t 0),
 .nchk 92 (.t 91),
 .fa 93 (.t 92) 2,
 .ld 94 1 false (.t 93),
 .mv 95 (.t 9),
 .bin 96 .add .num (.t 94) (.t 95),
 .mm 97 false (.t 96) (.c (.d (.i .i64 9999999))),
 .bd 98 [.d (.i .i64 0), .nil .str, .d (.b false), .d (.b false), .d (.i .i64 0)] [(0, 1, (.t 85)), (1, 1, (.t 87)), (2, 1, (.t 89)), (3, 1, (.t 90)), (4, 1, (.t 97))],
 .an [] [] [100064] [] (.call 99 false [] (.c (.clo iAddLock [])) [(.t 84), (.t 98)]),
 .mv 80 (.t 99),
 .ext 100 (.t 80) 0,
 .ext 101 (.t 80) 1,
 .mv 13 (.t 100),
 .mv 14 (.t 101)]) [.keep [14, 13, 12, 6, 0], .drop [69]])
 (.seq (.seq (.r [.mv 102 (.t 14),
 .not 103 (.t 102),
 .kill [14, 102]])
 (.cond (.t 103)
 (.pre [.keep [6], .drop [100064]] (.seq (.r [.call 104 false [] (.c (.clo icodeAlone [])) [(.c (.d (.i .i64 423)))],
 .st 3 (.t 6) (.t 104),
 .kill [104],
 .drop [105065]])
 (.ret)))
 (.pre [.kill [103]] (.skip))))
 (.seq (.r [.mv 105 (.t 0),
 .mv 106 (.t 13),
 .nchk 107 (.t 105),
 .fa 108 (.t 107) 1,
 .st 1 (.t 108) (.t 106),
 .keep [12, 6, 0],
 .drop [100064]])
 (.seq (.r [.mv 109 (.t 0),
 .mv 110 (.t 12),
 .call 111 true [0] (.c (.clo iSrv_useToken [])) [(.t 109), (.t 110)],
 .keep [12, 6]])
 (.seq (.r [.mv 112 (.t 12),
 .call 113 true [] (.c (.clo iNumText [])) [(.t 112)],
 .bin 114 .add .num (.c (.d (.s [60]))) (.t 113),
 .bin 115 .add .num (.t 114) (.c (.d (.s [62]))),
 .bd 116 [.d (.s []), .d (.s [])] [(0, 1, (.c (.d (.s [108, 111, 99, 107, 45, 116, 111, 107, 101, 110])))), (1, 1, (.t 115))],
 .kill [12, 112, 113, 114, 115],
 .bs 117 THead false 1 [.d (.s []), .d (.s [])] [(0, (.t 116))],
 .bd 118 [.d (.i .i64 0), .nil THead, .d (.s [])] [(0, 1, (.c (.d (.i .i64 200)))), (1, 1, (.t 117))],
 .st 3 (.t 6) (.t 118),
 .keep [6],
 .drop [181]])
 (.ret))))))))))))⟩
def iSrv_unlock_m : Fn := ⟨3, [.cell 6 3 true], false,
 .seq (.r [.bx 4 TReq true (.t 1),
 .bx 5 TAsk true (.t 2),
 .al 6 TResp false,
 .kill [1, 2]])
 (.seq (.r [.fa 15 (.t 4) 2,
 .ld 16 1 false (.t 15),
 .call 17 true [] (.c (.clo iHeadOf [])) [(.t 16), (.c (.d (.s [108, 111, 99, 107, 45, 116, 111, 107, 101, 110])))],
 .mv 14 (.t 17),
 .ext 18 (.t 14) 0,
 .ext 19 (.t 14) 1,
 .kill [4, 14, 15, 16, 17],
 .mv 7 (.t 18),
 .mv 8 (.t 19),
 .keep [7, 6, 5, 0],
 .drop [68]])
 (.seq (.r [.mv 21 (.t 7),
 .call 22 true [] (.c (.clo x_strings_CutPrefix [])) [(.t 21), (.c (.d (.s [60])))],
 .mv 20 (.t 22),
 .ext 23 (.t 20) 0,
 .ext 24 (.t 20) 1,
 .mv 9 (.t 23),
 .kill [7, 20, 21, 22, 23],
 .mv 10 (.t 24),
 .keep [10, 9, 6, 5, 0]])
 (.seq (.r [.mv 26 (.t 9),
 .call 27 true [] (.c (.clo x_strings_CutSuffix [])) [(.t 26), (.c (.d (.s [62])))],
 .mv 25 (.t 27),
 .ext 28 (.t 25) 0,
 .ext 29 (.t 25) 1,
 .mv 9 (.t 28),
 .mv 11 (.t 29),
 .kill [25, 26, 27, 28, 29]])
 (.seq (.r [.mv 31 (.t 9),
 .call 32 true [] (.c (.clo iParseNum [])) [(.t 31), (.c (.d (.i .i64 9999)))],
 .mv 30 (.t 32),
 .ext 33 (.t 30) 0,
 .ext 34 (.t 30) 1,
 .mv 12 (.t 33),
 .kill [9, 30, 31, 32, 33],
 .mv 13 (.t 34),
 .kill [9, 30, 31, 32, 33, 34]])
 (.seq (.seq (.r [.mv 35 (.t 10),
 .not 36 (.t 35),
 .mv 37 (.t 36),
 .gd 37 false (some 38) (.mv 38 (.t 11)),
 .gd 37 false (some 39) (.not 39 (.t 38)),
 .kill [10, 11, 35, 36, 38],
 .pick 40 (.t 37) (.c (.d (.b true))) (.t 39),
 .mv 41 (.t 40),
 .gd 41 false (some 42) (.mv 42 (.t 13)),
 .gd 41 false (some 43) (.not 43 (.t 42)),
 .kill [13, 37, 39, 40, 42],
 .pick 44 (.t 41) (.c (.d (.b true))) (.t 43),
 .keep [44, 12, 6, 5, 0]])
 (.cond (.t 44)
 (.pre [.keep [6], .drop [69]] (.seq (.r [.call 45 false [] (.c (.clo icodeAlone [])) [(.c (.d (.i .i64 400)))],
 .st 3 (.t 6) (.t 45),
 .kill [45],
 .drop [46065]])
 (.ret)))
 (.pre [.kill [44]] (.skip))))
 (.seq (.seq (.post (.r [.mv 46 (.t 0),
 .nchk 47 (.t 46),
 .fa 48 (.t 47) 1,
 .ld 49 1 false (.t 48),
 .fa 50 (.t 5) 0,
 .ld 51 1 false (.t 50),
 .call 52 true [] (.c (.clo iTokensAt [])) [(.t 49), (.t 51)],
 .mv 53 (.t 12),
 .call 54 true [] (.c (.clo ihasInt [])) [(.t 52), (.t 53)],
 .not 55 (.t 54)]) [.keep [55, 12, 6, 0], .drop [69]])
 (.cond (.t 55)
 (.pre [.keep [6]] (.seq (.r [.call 56 false [] (.c (.clo icodeAlone [])) [(.c (.d (.i .i64 409)))],
 .st 3 (.t 6) (.t 56),
 .kill [56],
 .drop [57065]])
 (.ret)))
 (.pre [.kill [55]] (.skip))))
 (.seq (.r [.mv 58 (.t 0),
 .mv 59 (.t 0),
 .nchk 60 (.t 59),
 .fa 61 (.t 60) 1,
 .ld 62 1 false (.t 61),
 .mv 63 (.t 12),
 .kill [0, 12, 59, 60, 61],
 .call 64 false [] (.c (.clo iDropLock [])) [(.t 62), (.t 63)],
 .mv 57 (.t 64),
 .ext 65 (.t 57) 0,
 .ext 66 (.t 57) 1,
 .kill [57, 62, 63, 64, 66],
 .nchk 67 (.t 58),
 .fa 68 (.t 67) 1,
 .st 1 (.t 68) (.t 65),
 .keep [6],
 .drop [65064]])
 (.seq (.r [.call 69 false [] (.c (.clo icodeAlone [])) [(.c (.d (.i .i64 204)))],
 .st 3 (.t 6) (.t 69),
 .kill [69],
 .drop [70065]])
 (.ret)))))))))⟩
def iSrv_turn_m : Fn := ⟨3, [.cell 6 3 true], false,
 .seq (.r [.bx 4 TReq true (.t 1),
 .bx 5 TAsk true (.t 2),
 .al 6 TResp false,
 .kill [1, 2]])
 (.seq (.r [.mv 7 (.c (.d (.i .i64 0))),
 .kill [7]])
 (.seq (.blk 0 (.seq (.r [.fa 18 (.t 4) 0,
 .ld 19 1 false (.t 18),
 .bin 20 .eql .num (.t 19) (.c (.d (.s [80, 85, 84]))),
 .mv 17 (.t 20),
 .kill [18, 19, 20]])
 (.cond (.t 17)
 (.pre [.kill [17]] (.post (.r [.mv 22 (.t 0),
 .mv 23 (.t 0),
 .nchk 24 (.t 23),
 .fa 25 (.t 24) 0,
 .ld 26 1 false (.t 25),
 .fa 27 (.t 5) 0,
 .ld 28 1 false (.t 27),
 .fa 29 (.t 4) 3,
 .ld 30 1 false (.t 29),
 .mv 31 (.t 0),
 .nchk 32 (.t 31),
 .fa 33 (.t 32) 3,
 .ld 34 1 false (.t 33),
 .call 35 true [] (.c (.clo iPutFile [])) [(.t 26), (.t 28), (.t 30), (.t 34)],
 .mv 21 (.t 35),
 .ext 36 (.t 21) 0,
 .an [] [0] [] [] (.ext 37 (.t 21) 1),
 .nchk 38 (.t 22),
 .fa 39 (.t 38) 0,
 .an [] [] [] [0] (.st 1 (.t 39) (.t 36)),
 .mv 7 (.t 37)]) [.keep [7, 6, 5, 4, 0]]))
 (.pre [.kill [17]] (.seq (.r [.fa 41 (.t 4) 0,
 .ld 42 1 false (.t 41),
 .bin 43 .eql .num (.t 42) (.c (.d (.s [77, 75, 67, 79, 76]))),
 .mv 40 (.t 43),
 .kill [41, 42, 43]])
 (.cond (.t 40)
 (.pre [.kill [40]] (.post (.r [.mv 45 (.t 0),
 .mv 46 (.t 0),
 .nchk 47 (.t 46),
 .fa 48 (.t 47) 0,
 .ld 49 1 false (.t 48),
 .fa 50 (.t 5) 0,
 .ld 51 1 false (.t 50),
 .mv 52 (.t 0),
 .nchk 53 (.t 52),
 .fa 54 (.t 53) 3,
 .ld 55 1 false (.t 54),
 .call 56 true [] (.c (.clo iMakeColl [])) [(.t 49), (.t 51), (.t 55)],
 .mv 44 (.t 56),
 .ext 57 (.t 44) 0,
 .an [] [0] [] [] (.ext 58 (.t 44) 1),
 .nchk 59 (.t 45),
 .fa 60 (.t 59) 0,
 .an [] [] [] [0] (.st 1 (.t 60) (.t 57)),
 .mv 7 (.t 58)]) [.keep [7, 6, 5, 4, 0]]))
 (.pre [.kill [40]] (.seq (.r [.fa 62 (.t 4) 0,
 .ld 63 1 false (.t 62),
 .bin 64 .eql .num (.t 63) (.c (.d (.s [68, 69, 76, 69, 84, 69]))),
 .mv 61 (.t 64),
 .kill [62, 63, 64]])
 (.cond (.t 61)
 (.pre [.kill [61]] (.post (.r [.mv 66 (.t 0),
 .mv 67 (.t 0),
 .nchk 68 (.t 67),
 .fa 69 (.t 68) 0,
 .ld 70 1 false (.t 69),
 .fa 71 (.t 5) 0,
 .ld 72 1 false (.t 71),
 .call 73 true [] (.c (.clo iRemove [])) [(.t 70), (.t 72)],
 .mv 65 (.t 73),
 .ext 74 (.t 65) 0,
 .an [] [0] [] [] (.ext 75 (.t 65) 1),
 .nchk 76 (.t 66),
 .fa 77 (.t 76) 0,
 .an [] [] [] [0] (.st 1 (.t 77) (.t 74)),
 .mv 7 (.t 75)]) [.keep [7, 6, 5, 4, 0]]))
 (.pre [.kill [61]] (.seq (.r [.fa 79 (.t 4) 0,
 .ld 80 1 false (.t 79),
 .bin 81 .eql .num (.t 80) (.c (.d (.s [77, 79, 86, 69]))),
 .mv 78 (.t 81),
 .kill [79, 80, 81]])
 (.cond (.t 78)
 (.pre [.kill [78]] (.post (.r [.mv 83 (.t 0),
 .mv 84 (.t 0),
 .nchk 85 (.t 84),
 .fa 86 (.t 85) 0,
 .ld 87 1 false (.t 86),
 .fa 88 (.t 5) 0,
 .ld 89 1 false (.t 88),
 .fa 90 (.t 5) 1,
 .ld 91 1 false (.t 90),
 .fa 92 (.t 5) 3,
 .ld 93 1 false (.t 92),
 .mv 94 (.t 0),
 .nchk 95 (.t 94),
 .fa 96 (.t 95) 3,
 .ld 97 1 false (.t 96),
 .call 98 true [] (.c (.clo iMoveTree [])) [(.t 87), (.t 89), (.t 91), (.t 93), (.t 97)],
 .mv 82 (.t 98),
 .ext 99 (.t 82) 0,
 .an [] [0] [] [] (.ext 100 (.t 82) 1),
 .nchk 101 (.t 83),
 .fa 102 (.t 101) 0,
 .an [] [] [] [0] (.st 1 (.t 102) (.t 99)),
 .mv 7 (.t 100)]) [.keep [7, 6, 5, 4, 0]]))
 (.pre [.kill [78]] (.seq (.r [.fa 104 (.t 5) 2,
 .ld 105 1 false (.t 104),
 .mv 103 (.t 105),
 .kill [104, 105]])
 (.cond (.t 103)
 (.pre [.kill [103]] (.post (.r [.mv 107 (.t 0),
 .mv 108 (.t 0),
 .nchk 109 (.t 108),
 .fa 110 (.t 109) 0,
 .ld 111 1 false (.t 110),
 .fa 112 (.t 5) 0,
 .ld 113 1 false (.t 112),
 .fa 114 (.t 5) 1,
 .ld 115 1 false (.t 114),
 .fa 116 (.t 5) 3,
 .ld 117 1 false (.t 116),
 .mv 118 (.t 0),
 .nchk 119 (.t 118),
 .fa 120 (.t 119) 3,
 .ld 121 1 false (.t 120),
 .call 122 true [] (.c (.clo iCopyTree [])) [(.t 111), (.t 113), (.t 115), (.t 117), (.t 121)],
 .mv 106 (.t 122),
 .ext 123 (.t 106) 0,
 .an [] [0] [] [] (.ext 124 (.t 106) 1),
 .nchk 125 (.t 107),
 .fa 126 (.t 125) 0,
 .an [] [] [] [0] (.st 1 (.t 126) (.t 123)),
 .mv 7 (.t 124)]) [.keep [7, 6, 5, 4, 0]]))
 (.pre [.kill [103]] (.r [.mv 9 (.t 0),
 .mv 10 (.t 0),
 .ld 11 6 true (.t 5),
 .call 12 true [] (.c (.clo iSrv_copyAlone [])) [(.t 10), (.t 11)],
 .mv 8 (.t 12),
 .ext 13 (.t 8) 0,
 .ext 14 (.t 8) 1,
 .nchk 15 (.t 9),
 .kill [8, 9, 10, 11, 12],
 .fa 16 (.t 15) 0,
 .st 1 (.t 16) (.t 13),
 .mv 7 (.t 14),
 .keep [7, 6, 5, 4, 0]])))))))))))))))))
 (.seq (.seq (.r [.mv 127 (.t 7),
 .bin 128 .geq .num (.t 127) (.c (.d (.i .i64 300))),
 .kill [127]])
 (.cond (.t 128)
 (.pre [.keep [7, 6], .drop [68, 69]] (.seq (.r [.mv 129 (.t 7),
 .call 130 false [] (.c (.clo icodeAlone [])) [(.t 129)],
 .st 3 (.t 6) (.t 130),
 .keep [6],
 .drop [131065]])
 (.ret)))
 (.pre [.kill [128]] (.skip))))
 (.seq (.seq (.r [.fa 131 (.t 4) 0,
 .ld 132 1 false (.t 131),
 .bin 133 .eql .num (.t 132) (.c (.d (.s [68, 69, 76, 69, 84, 69]))),
 .mv 134 (.t 133),
 .gd 134 false (some 135) (.fa 135 (.t 4) 0),
 .gd 134 false (some 136) (.ld 136 1 false (.t 135)),
 .gd 134 false (some 137) (.bin 137 .eql .num (.t 136) (.c (.d (.s [77, 79, 86, 69])))),
 .kill [131, 132, 133, 135, 136],
 .pick 138 (.t 134) (.c (.d (.b true))) (.t 137),
 .keep [138, 7, 6, 5, 4, 0]])
 (.cond (.t 138)
 (.pre [.kill [138]] (.r [.mv 139 (.t 0),
 .fa 140 (.t 5) 0,
 .ld 141 1 false (.t 140),
 .call 142 true [0] (.c (.clo iSrv_dropUnder [])) [(.t 139), (.t 141), (.c (.d (.b true)))],
 .kill [139, 140, 141, 142]]))
 (.pre [.kill [138]] (.skip))))
 (.seq (.seq (.r [.fa 143 (.t 4) 0,
 .ld 144 1 false (.t 143),
 .bin 145 .eql .num (.t 144) (.c (.d (.s [67, 79, 80, 89]))),
 .mv 146 (.t 145),
 .gd 146 false (some 147) (.fa 147 (.t 4) 0),
 .gd 146 false (some 148) (.ld 148 1 false (.t 147)),
 .gd 146 false (some 149) (.bin 149 .eql .num (.t 148) (.c (.d (.s [77, 79, 86, 69])))),
 .kill [143, 144, 145, 147, 148],
 .pick 150 (.t 146) (.c (.d (.b true))) (.t 149),
 .keep [150, 7, 6, 5, 4, 0]])
 (.cond (.t 150)
 (.pre [.kill [150]] (.r [.mv 151 (.t 0),
 .fa 152 (.t 5) 1,
 .ld 153 1 false (.t 152),
 .call 154 true [0] (.c (.clo iSrv_dropUnder [])) [(.t 151), (.t 153), (.c (.d (.b false)))],
 .keep [7, 6, 4, 0],
 .drop [69]]))
 (.pre [.kill [5, 150], .drop [69]] (.skip))))
 (.seq (.seq (.r [.fa 155 (.t 4) 0,
 .ld 156 1 false (.t 155),
 .bin 157 .eql .num (.t 156) (.c (.d (.s [80, 85, 84]))),
 .kill [4, 155, 156],
 .drop [68]])
 (.cond (.t 157)
 (.pre [.kill [157]] (.seq (.r [.mv 158 (.t 7),
 .mv 159 (.t 0),
 .nchk 160 (.t 159),
 .fa 161 (.t 160) 3,
 .ld 162 1 false (.t 161),
 .kill [0, 7, 159, 160, 161],
 .call 163 true [] (.c (.clo iTagText [])) [(.t 162)],
 .call 164 false [] (.c (.clo ietag [])) [(.t 158), (.t 163)],
 .st 3 (.t 6) (.t 164),
 .keep [6],
 .drop [165065]])
 (.ret)))
 (.pre [.kill [0, 157]] (.skip))))
 (.seq (.r [.mv 165 (.t 7),
 .call 166 false [] (.c (.clo icodeAlone [])) [(.t 165)],
 .st 3 (.t 6) (.t 166),
 .keep [6],
 .drop [167065]])
 (.ret))))))))⟩
/-- live: [0, 5, 6, 7]; objects: [] -/
def iPathOk_l0 : C :=
 .seq (.r [.bin 8 .lss .num (.t 7) (.t 6)])
 (.seq (.cond (.t 8)
 (.pre [.kill [8]] (.skip))
 (.pre [.keep [0]] (.ex 0)))
 (.seq (.blk 1 (.seq (.r [.ia 9 1 (.t 5) (.t 7),
 .ld 10 1 false (.t 9),
 .mv 4 (.t 10),
 .kill [9, 10]])
 (.seq (.r [.mv 11 (.t 4),
 .call 12 true [] (.c (.clo iNameOk [])) [(.t 11)],
 .not 13 (.t 12),
 .kill [4, 11, 12]])
 (.cond (.t 13)
 (.pre [.keep []] (.seq (.r [.mv 2 (.c (.d (.b false)))])
 (.ret)))
 (.pre [.kill [13]] (.skip))))))
 (.r [.bin 14 .add .num (.t 7) (.c (.d (.i .i64 1))),
 .mv 7 (.t 14),
 .kill [14]])))
def iPathOk_m : Fn := ⟨1, [.t 2], false,
 .seq (.r [.mv 2 (.c (.d (.b false))),
 .kill [2]])
 (.seq (.seq (.r [.mv 5 (.t 0),
 .len 6 (.t 5),
 .mv 7 (.c (.d (.i .i64 0)))])
 (.blk 0 (.pre [.keep [7, 6, 5, 0]] (.loop iPathOk_l0))))
 (.seq (.r [.mv 15 (.t 0),
 .len 16 (.t 15),
 .bin 17 .leq .num (.t 16) (.c (.d (.i .i64 4))),
 .mv 2 (.t 17),
 .keep [2]])
 (.ret)))⟩
/-- live: [0, 5, 6, 7]; objects: [] -/
def iPropsOk_l0 : C :=
 .seq (.r [.bin 8 .lss .num (.t 7) (.t 6)])
 (.seq (.cond (.t 8)
 (.pre [.kill [8]] (.skip))
 (.pre [.keep [0]] (.ex 0)))
 (.seq (.blk 1 (.seq (.r [.mv 9 (.t 7),
 .ia 10 3 (.t 5) (.t 7),
 .ld 11 3 true (.t 10),
 .al 4 TProp false,
 .mv 3 (.t 9),
 .st 3 (.t 4) (.t 11),
 .kill [9, 10, 11]])
 (.seq (.post (.r [.ld 12 3 true (.t 4),
 .call 13 true [] (.c (.clo ipropOk [])) [(.t 12)],
 .not 14 (.t 13),
 .mv 15 (.t 14),
 .gd 15 false (some 16) (.mv 16 (.t 3)),
 .gd 15 false (some 17) (.bin 17 .gtr .num (.t 16) (.c (.d (.i .i64 0)))),
 .gd 15 false (some 18) (.mv 18 (.t 17)),
 .gd 18 true (some 19) (.mv 19 (.t 0)),
 .gd 18 true (some 20) (.mv 20 (.t 3)),
 .gd 18 true (some 21) (.bin 21 .sub .num (.t 20) (.c (.d (.i .i64 1)))),
 .gd 18 true (some 22) (.ia 22 3 (.t 19) (.t 21)),
 .gd 18 true (some 23) (.ld 23 3 true (.t 22)),
 .gd 18 true (some 24) (.ld 24 3 true (.t 4)),
 .gd 18 true (some 25) (.call 25 true [] (.c (.clo ilessProp [])) [(.t 23), (.t 24)]),
 .gd 18 true (some 26) (.not 26 (.t 25)),
 .gd 15 false (some 27) (.pick 27 (.t 18) (.t 26) (.c (.d (.b false)))),
 .pick 28 (.t 15) (.c (.d (.b true))) (.t 27)]) [.keep [28, 7, 6, 5, 0], .drop [68]])
 (.cond (.t 28)
 (.pre [.keep []] (.seq (.r [.mv 2 (.c (.d (.b false)))])
 (.ret)))
 (.pre [.kill [28]] (.skip))))))
 (.r [.bin 29 .add .num (.t 7) (.c (.d (.i .i64 1))),
 .mv 7 (.t 29),
 .kill [29]])))
def iPropsOk_m : Fn := ⟨1, [.t 2], false,
 .seq (.r [.mv 2 (.c (.d (.b false))),
 .kill [2]])
 (.seq (.seq (.r [.mv 5 (.t 0),
 .len 6 (.t 5),
 .mv 7 (.c (.d (.i .i64 0)))])
 (.blk 0 (.pre [.keep [7, 6, 5, 0]] (.loop iPropsOk_l0))))
 (.seq (.r [.mv 30 (.t 0),
 .len 31 (.t 30),
 .bin 32 .leq .num (.t 31) (.c (.d (.i .i64 4))),
 .mv 2 (.t 32),
 .keep [2]])
 (.ret)))⟩
/-- live: [1, 7, 8, 9]; objects: [] -/
def iFindRes_l0 : C :=
 .seq (.r [.bin 10 .lss .num (.t 9) (.t 8)])
 (.seq (.cond (.t 10)
 (.pre [.kill [10]] (.skip))
 (.pre [.keep []] (.ex 0)))
 (.seq (.blk 1 (.seq (.r [.mv 11 (.t 9),
 .ia 12 5 (.t 7) (.t 9),
 .ld 13 5 true (.t 12),
 .al 6 TRes true,
 .mv 5 (.t 11),
 .st 5 (.t 6) (.t 13),
 .kill [11, 12, 13]])
 (.seq (.r [.fa 14 (.t 6) 0,
 .ld 15 1 false (.t 14),
 .mv 16 (.t 1),
 .call 17 true [] (.c (.clo iSamePath [])) [(.t 15), (.t 16)],
 .kill [6, 14, 15, 16],
 .drop [70]])
 (.cond (.t 17)
 (.pre [.keep [5]] (.seq (.r [.mv 18 (.t 5),
 .mv 4 (.t 18),
 .keep [4]])
 (.ret)))
 (.pre [.kill [5, 17]] (.skip))))))
 (.r [.bin 19 .add .num (.t 9) (.c (.d (.i .i64 1))),
 .mv 9 (.t 19),
 .kill [19]])))
def iFindRes_m : Fn := ⟨2, [.t 4], false,
 .seq (.r [.mv 4 (.c (.d (.i .i64 0))),
 .kill [4]])
 (.seq (.seq (.r [.mv 7 (.t 0),
 .len 8 (.t 7),
 .mv 9 (.c (.d (.i .i64 0))),
 .kill [0]])
 (.blk 0 (.pre [.keep [9, 8, 7, 1]] (.loop iFindRes_l0))))
 (.seq (.r [.mv 4 (.c (.d (.i .i64 (-1))))])
 (.ret)))⟩
def iCovers_m : Fn := ⟨2, [.t 4], false,
 .seq (.r [.bx 2 TLock true (.t 0),
 .mv 4 (.c (.d (.b false))),
 .kill [0, 4]])
 (.seq (.r [.fa 5 (.t 2) 1,
 .ld 6 1 false (.t 5),
 .mv 7 (.t 1),
 .call 8 true [] (.c (.clo iSamePath [])) [(.t 6), (.t 7)],
 .mv 9 (.t 8),
 .gd 9 false (some 10) (.fa 10 (.t 2) 2),
 .gd 9 false (some 11) (.ld 11 1 false (.t 10)),
 .kill [5, 6, 7, 8, 10],
 .gd 9 false (some 12) (.mv 12 (.t 11)),
 .gd 12 true (some 13) (.mv 13 (.t 1)),
 .gd 12 true (some 14) (.fa 14 (.t 2) 1),
 .gd 12 true (some 15) (.ld 15 1 false (.t 14)),
 .gd 12 true (some 16) (.call 16 true [] (.c (.clo iUnder [])) [(.t 13), (.t 15)]),
 .kill [1, 2, 11, 13, 14, 15],
 .gd 9 false (some 17) (.pick 17 (.t 12) (.t 16) (.c (.d (.b false)))),
 .pick 18 (.t 9) (.c (.d (.b true))) (.t 17),
 .mv 4 (.t 18),
 .keep [4],
 .drop [66]])
 (.ret))⟩
def iisLarge_m : Fn := ⟨1, [.t 2], false,
 .seq (.r [.mv 2 (.c (.d (.b false))),
 .kill [2]])
 (.seq (.r [.mv 3 (.t 0),
 .bin 4 .geq .num (.t 3) (.c (.d (.u 65))),
 .mv 5 (.t 4),
 .gd 5 true (some 6) (.mv 6 (.t 0)),
 .gd 5 true (some 7) (.bin 7 .leq .num (.t 6) (.c (.d (.u 90)))),
 .pick 8 (.t 5) (.t 7) (.c (.d (.b false))),
 .kill [0, 3, 4, 5, 6, 7],
 .mv 2 (.t 8),
 .keep [2]])
 (.ret))⟩
/-- live: [0, 3]; objects: [] -/
def iPlain_l0 : C :=
 .seq (.seq (.r [.mv 4 (.t 3),
 .mv 5 (.t 0),
 .lns 6 (.t 5),
 .bin 7 .lss .num (.t 4) (.t 6),
 .kill [4, 5, 6]])
 (.cond (.t 7)
 (.pre [.kill [7]] (.skip))
 (.pre [.keep []] (.ex 0))))
 (.seq (.blk 1 (.seq (.r [.mv 10 (.t 0),
 .mv 11 (.t 3),
 .ix 12 (.t 10) (.t 11),
 .call 13 true [] (.c (.clo iisPlain [])) [(.t 12)],
 .not 14 (.t 13),
 .keep [14, 3, 0]])
 (.cond (.t 14)
 (.pre [.keep []] (.seq (.r [.mv 2 (.c (.d (.b false)))])
 (.ret)))
 (.pre [.kill [14]] (.skip)))))
 (.r [.mv 8 (.t 3),
 .bin 9 .add .num (.t 8) (.c (.d (.i .i64 1))),
 .mv 3 (.t 9),
 .kill [8, 9]]))
def iPlain_m : Fn := ⟨1, [.t 2], false,
 .seq (.r [.mv 2 (.c (.d (.b false))),
 .kill [2]])
 (.seq (.seq (.r [.mv 3 (.c (.d (.i .i64 0)))])
 (.blk 0 (.pre [.keep [3, 0]] (.loop iPlain_l0))))
 (.seq (.r [.mv 2 (.c (.d (.b true)))])
 (.ret)))⟩
/-- live: [0, 3]; objects: [] -/
def iSmallName_l0 : C :=
 .seq (.seq (.r [.mv 4 (.t 3),
 .mv 5 (.t 0),
 .lns 6 (.t 5),
 .bin 7 .lss .num (.t 4) (.t 6),
 .kill [4, 5, 6]])
 (.cond (.t 7)
 (.pre [.kill [7]] (.skip))
 (.pre [.keep [0]] (.ex 0))))
 (.seq (.blk 1 (.seq (.r [.mv 10 (.t 0),
 .mv 11 (.t 3),
 .ix 12 (.t 10) (.t 11),
 .call 13 true [] (.c (.clo iisSmall [])) [(.t 12)],
 .not 14 (.t 13),
 .mv 15 (.t 14),
 .kill [10, 11, 12, 13, 14],
 .gd 15 true (some 16) (.mv 16 (.t 3)),
 .gd 15 true (some 17) (.bin 17 .eql .num (.t 16) (.c (.d (.i .i64 0)))),
 .gd 15 true (some 18) (.mv 18 (.t 17)),
 .gd 18 false (some 19) (.mv 19 (.t 0)),
 .gd 18 false (some 20) (.mv 20 (.t 3)),
 .gd 18 false (some 21) (.ix 21 (.t 19) (.t 20)),
 .gd 18 false (some 22) (.call 22 true [] (.c (.clo iisDigit [])) [(.t 21)]),
 .kill [16, 17, 19, 20, 21],
 .gd 18 false (some 23) (.not 23 (.t 22)),
 .gd 18 false (some 24) (.mv 24 (.t 23)),
 .gd 24 true (some 25) (.mv 25 (.t 0)),
 .gd 24 true (some 26) (.mv 26 (.t 3)),
 .gd 24 true (some 27) (.ix 27 (.t 25) (.t 26)),
 .gd 24 true (some 28) (.bin 28 .neq .num (.t 27) (.c (.d (.u 45)))),
 .kill [22, 23, 25, 26, 27],
 .gd 18 false (some 29) (.pick 29 (.t 24) (.t 28) (.c (.d (.b false)))),
 .gd 15 true (some 30) (.pick 30 (.t 18) (.c (.d (.b true))) (.t 29)),
 .pick 31 (.t 15) (.t 30) (.c (.d (.b false))),
 .keep [31, 3, 0]])
 (.cond (.t 31)
 (.pre [.keep []] (.seq (.r [.mv 2 (.c (.d (.b false)))])
 (.ret)))
 (.pre [.kill [31]] (.skip)))))
 (.r [.mv 8 (.t 3),
 .bin 9 .add .num (.t 8) (.c (.d (.i .i64 1))),
 .mv 3 (.t 9),
 .kill [8, 9]]))
def iSmallName_m : Fn := ⟨1, [.t 2], false,
 .seq (.r [.mv 2 (.c (.d (.b false))),
 .kill [2]])
 (.seq (.seq (.r [.mv 3 (.c (.d (.i .i64 0)))])
 (.blk 0 (.pre [.keep [3, 0]] (.loop iSmallName_l0))))
 (.seq (.r [.mv 32 (.t 0),
 .lns 33 (.t 32),
 .call 34 true [] (.c (.clo iin [])) [(.t 33), (.c (.d (.i .i64 1))), (.c (.d (.i .i64 20)))],
 .mv 2 (.t 34),
 .keep [2]])
 (.ret)))⟩
def ivalOk_m : Fn := ⟨1, [.t 2], false,
 .seq (.r [.mv 2 (.c (.d (.b false))),
 .kill [2]])
 (.seq (.r [.mv 3 (.t 0),
 .lns 4 (.t 3),
 .bin 5 .leq .num (.t 4) (.c (.d (.i .i64 60))),
 .mv 6 (.t 5),
 .gd 6 true (some 7) (.mv 7 (.t 0)),
 .gd 6 true (some 8) (.call 8 true [] (.c (.clo iPlain [])) [(.t 7)]),
 .pick 9 (.t 6) (.t 8) (.c (.d (.b false))),
 .kill [3, 4, 5, 6, 7, 8],
 .mv 10 (.t 9),
 .gd 10 true (some 11) (.mv 11 (.t 0)),
 .gd 10 true (some 12) (.call 12 true [] (.c (.clo iTrim [])) [(.t 11)]),
 .gd 10 true (some 13) (.mv 13 (.t 0)),
 .gd 10 true (some 14) (.bin 14 .eql .num (.t 12) (.t 13)),
 .kill [0, 9, 11, 12, 13],
 .pick 15 (.t 10) (.t 14) (.c (.d (.b false))),
 .mv 2 (.t 15),
 .keep [2]])
 (.ret))⟩
/-- live: [0, 4, 5]; objects: [68] -/
def iUnquote_l0 : C :=
 .seq (.seq (.r [.mv 8 (.t 5),
 .mv 9 (.t 0),
 .lns 10 (.t 9),
 .bin 11 .lss .num (.t 8) (.t 10),
 .kill [8, 9, 10]])
 (.cond (.t 11)
 (.pre [.kill [11]] (.skip))
 (.pre [.keep [4]] (.ex 0))))
 (.seq (.blk 1 (.seq (.seq (.r [.mv 14 (.t 0),
 .mv 15 (.t 5),
 .ix 16 (.t 14) (.t 15),
 .bin 17 .neq .num (.t 16) (.c (.d (.u 37))),
 .kill [14, 15, 16]])
 (.cond (.t 17)
 (.pre [.kill [17]] (.seq (.r [.mv 18 (.t 4),
 .mv 19 (.t 0),
 .mv 20 (.t 5),
 .ix 21 (.t 19) (.t 20),
 .bs 22 .u8 false 1 [.d (.u 0)] [(0, (.t 21))],
 .app 23 .u8 false 1 (.t 18) (.t 22),
 .kill [4, 18, 19, 20, 21, 22],
 .mv 4 (.t 23),
 .ren 87 68,
 .keep [5, 4, 0],
 .drop [86, 87]])
 (.ex 1)))
 (.pre [.kill [17]] (.skip))))
 (.seq (.seq (.r [.mv 24 (.t 5),
 .bin 25 .add .num (.t 24) (.c (.d (.i .i64 2))),
 .mv 26 (.t 0),
 .lns 27 (.t 26),
 .bin 28 .geq .num (.t 25) (.t 27),
 .kill [24, 25, 26, 27]])
 (.cond (.t 28)
 (.pre [.keep [], .drop [68]] (.seq (.r [.mv 2 (.c (.d (.s []))),
 .mv 3 (.c (.d (.b false)))])
 (.ret)))
 (.pre [.kill [28]] (.skip))))
 (.seq (.post (.r [.mv 29 (.t 0),
 .mv 30 (.t 5),
 .bin 31 .add .num (.t 30) (.c (.d (.i .i64 1))),
 .ix 32 (.t 29) (.t 31),
 .call 33 true [] (.c (.clo idigitOf [])) [(.t 32)],
 .mv 34 (.t 0),
 .mv 35 (.t 5),
 .bin 36 .add .num (.t 35) (.c (.d (.i .i64 2))),
 .ix 37 (.t 34) (.t 36),
 .call 38 true [] (.c (.clo idigitOf [])) [(.t 37)],
 .mv 6 (.t 33),
 .mv 7 (.t 38)]) [.keep [7, 6, 5, 4, 0]])
 (.seq (.seq (.r [.mv 39 (.t 6),
 .bin 40 .lss .num (.t 39) (.c (.d (.i .i64 0))),
 .mv 41 (.t 40),
 .gd 41 false (some 42) (.mv 42 (.t 7)),
 .gd 41 false (some 43) (.bin 43 .lss .num (.t 42) (.c (.d (.i .i64 0)))),
 .pick 44 (.t 41) (.c (.d (.b true))) (.t 43),
 .kill [39, 40, 41, 42, 43]])
 (.cond (.t 44)
 (.pre [.keep [], .drop [68]] (.seq (.r [.mv 2 (.c (.d (.s []))),
 .mv 3 (.c (.d (.b false)))])
 (.ret)))
 (.pre [.kill [44]] (.skip))))
 (.seq (.r [.mv 45 (.t 4),
 .mv 46 (.t 6),
 .bin 47 .mul .num (.c (.d (.i .i64 16))) (.t 46),
 .mv 48 (.t 7),
 .bin 49 .add .num (.t 47) (.t 48),
 .kill [4, 6, 7, 46, 47, 48],
 .cvi 50 .u8 (.t 49),
 .bs 51 .u8 false 1 [.d (.u 0)] [(0, (.t 50))],
 .app 52 .u8 false 1 (.t 45) (.t 51),
 .mv 4 (.t 52),
 .ren 116 68,
 .keep [5, 4, 0],
 .drop [115, 116]])
 (.r [.mv 53 (.t 5),
 .bin 54 .add .num (.t 53) (.c (.d (.i .i64 2))),
 .mv 5 (.t 54),
 .kill [53, 54]])))))))
 (.r [.mv 12 (.t 5),
 .bin 13 .add .num (.t 12) (.c (.d (.i .i64 1))),
 .mv 5 (.t 13),
 .kill [12, 13]]))
def iUnquote_m : Fn := ⟨1, [.t 2, .t 3], false,
 .seq (.r [.mv 2 (.c (.d (.s []))),
 .mv 3 (.c (.d (.b false))),
 .keep [0]])
 (.seq (.r [.mv 4 (.c (.nil .u8)),
 .opn 4 4 false])
 (.seq (.seq (.r [.mv 5 (.c (.d (.i .i64 0)))])
 (.blk 0 (.pre [.keep [5, 4, 0]] (.loop iUnquote_l0))))
 (.seq (.r [.mv 55 (.t 4),
 .b2s 56 (.t 55),
 .mv 2 (.t 56),
 .mv 3 (.c (.d (.b true))),
 .keep [3, 2],
 .drop [68]])
 (.ret))))⟩
/-- live: [3, 8, 9, 10]; objects: [71] -/
def iLower_l0 : C :=
 .seq (.r [.bin 11 .lss .num (.t 10) (.t 9)])
 (.seq (.cond (.t 11)
 (.pre [.kill [11]] (.skip))
 (.pre [.keep [3]] (.ex 0)))
 (.seq (.blk 1 (.seq (.r [.mv 12 (.t 10),
 .ia 13 1 (.t 8) (.t 10),
 .ld 14 1 false (.t 13),
 .mv 4 (.t 12),
 .mv 5 (.t 14),
 .kill [12, 13, 14]])
 (.seq (.r [.mv 15 (.t 5),
 .call 16 true [] (.c (.clo iisLarge [])) [(.t 15)],
 .kill [15]])
 (.cond (.t 16)
 (.pre [.kill [16]] (.r [.mv 17 (.t 3),
 .mv 18 (.t 4),
 .mv 19 (.t 5),
 .bin 20 .add .num (.t 19) (.c (.d (.u 32))),
 .ia 21 1 (.t 17) (.t 18),
 .kill [4, 5, 17, 18, 19],
 .st 1 (.t 21) (.t 20),
 .keep [10, 9, 8, 3]]))
 (.pre [.kill [4, 5, 16]] (.skip))))))
 (.r [.bin 22 .add .num (.t 10) (.c (.d (.i .i64 1))),
 .mv 10 (.t 22),
 .kill [22]])))
def iLower_m : Fn := ⟨1, [.t 2], false,
 .seq (.r [.mv 2 (.c (.d (.s []))),
 .kill [2]])
 (.seq (.r [.mv 6 (.t 0),
 .s2b 7 (.t 6),
 .mv 3 (.t 7),
 .keep [3]])
 (.seq (.seq (.r [.mv 8 (.t 3),
 .len 9 (.t 8),
 .mv 10 (.c (.d (.i .i64 0)))])
 (.blk 0 (.pre [.keep [10, 9, 8, 3]] (.loop iLower_l0))))
 (.seq (.r [.mv 23 (.t 3),
 .b2s 24 (.t 23),
 .mv 2 (.t 24),
 .keep [2],
 .drop [71]])
 (.ret))))⟩
/-- live: [0, 5, 6]; objects: [70] -/
def ilistAt_l0 : C :=
 .seq (.seq (.r [.mv 17 (.t 5),
 .mv 18 (.t 17),
 .gd 18 true (some 19) (.mv 19 (.t 6)),
 .gd 18 true (some 20) (.len 20 (.t 19)),
 .gd 18 true (some 21) (.bin 21 .lss .num (.t 20) (.c (.d (.i .i64 4)))),
 .pick 22 (.t 18) (.t 21) (.c (.d (.b false))),
 .keep [22, 6, 0]])
 (.cond (.t 22)
 (.pre [.kill [22]] (.skip))
 (.pre [.keep [], .drop [70]] (.ex 0))))
 (.blk 1 (.seq (.r [.mv 24 (.t 0),
 .call 25 true [] (.c (.clo icondAt [])) [(.t 24)],
 .mv 23 (.t 25),
 .ext 26 (.t 23) 0,
 .ext 27 (.t 23) 1,
 .ext 28 (.t 23) 2,
 .al 7 TCond false,
 .st 3 (.t 7) (.t 26),
 .kill [0, 23, 24, 25, 26],
 .mv 8 (.t 27),
 .mv 9 (.t 28),
 .keep [9, 8, 7, 6]])
 (.seq (.seq (.r [.mv 29 (.t 9),
 .not 30 (.t 29),
 .kill [9, 29]])
 (.cond (.t 30)
 (.pre [.keep [], .drop [70, 71]] (.seq (.r [.mv 2 (.c (.nil TCond)),
 .opn 2 2 false,
 .mv 3 (.c (.d (.s []))),
 .mv 4 (.c (.d (.b false)))])
 (.ret)))
 (.pre [.kill [30]] (.skip))))
 (.seq (.r [.mv 31 (.t 6),
 .ld 32 3 true (.t 7),
 .bs 33 TCond false 1 [.d (.b false), .d (.i .i64 0), .d (.s [])] [(0, (.t 32))],
 .app 34 TCond false 32 (.t 31) (.t 33),
 .kill [6, 7, 31, 32, 33],
 .mv 6 (.t 34),
 .ren 98 70,
 .keep [8, 6],
 .drop [71, 97, 98]])
 (.seq (.seq (.r [.mv 36 (.t 8),
 .call 37 true [] (.c (.clo x_strings_CutPrefix [])) [(.t 36), (.c (.d (.s [41])))],
 .mv 35 (.t 37),
 .ext 38 (.t 35) 0,
 .ext 39 (.t 35) 1,
 .mv 10 (.t 38),
 .mv 11 (.t 39),
 .keep [11, 10, 8, 6]])
 (.seq (.r [.mv 40 (.t 11),
 .kill [11]])
 (.cond (.t 40)
 (.pre [.kill [8, 40]] (.seq (.r [.mv 41 (.t 6),
 .mv 42 (.t 10),
 .mv 2 (.t 41),
 .ren 70 66,
 .mv 3 (.t 42),
 .mv 4 (.c (.d (.b true))),
 .keep [4, 3, 2],
 .drop [70]])
 (.ret)))
 (.pre [.kill [10, 40]] (.skip)))))
 (.r [.mv 44 (.t 8),
 .call 45 true [] (.c (.clo x_strings_CutPrefix [])) [(.t 44), (.c (.d (.s [32])))],
 .mv 43 (.t 45),
 .ext 46 (.t 43) 0,
 .ext 47 (.t 43) 1,
 .mv 0 (.t 46),
 .kill [8, 43, 44, 45, 46],
 .mv 5 (.t 47),
 .keep [6, 5, 0]]))))))
def ilistAt_m : Fn := ⟨1, [.t 2, .t 3, .t 4], false,
 .seq (.r [.mv 2 (.c (.nil TCond)),
 .opn 2 2 false,
 .mv 3 (.c (.d (.s []))),
 .mv 4 (.c (.d (.b false))),
 .keep [0],
 .drop [66]])
 (.seq (.r [.mv 13 (.t 0),
 .call 14 true [] (.c (.clo x_strings_CutPrefix [])) [(.t 13), (.c (.d (.s [40])))],
 .mv 12 (.t 14),
 .ext 15 (.t 12) 0,
 .ext 16 (.t 12) 1,
 .mv 0 (.t 15),
 .mv 5 (.t 16),
 .keep [5, 0]])
 (.seq (.r [.mv 6 (.c (.nil TCond)),
 .opn 6 6 false])
 (.seq (.blk 0 (.pre [.keep [6, 5, 0]] (.loop ilistAt_l0)))
 (.seq (.r [.mv 2 (.c (.nil TCond)),
 .opn 2 2 false,
 .mv 3 (.c (.d (.s []))),
 .mv 4 (.c (.d (.b false)))])
 (.ret)))))⟩
def iTagAt_m : Fn := ⟨2, [.t 4, .t 5], false,
 .seq (.r [.bx 2 TSrv true (.t 0),
 .mv 4 (.c (.d (.s []))),
 .mv 5 (.c (.d (.b false))),
 .keep [2, 1]])
 (.seq (.seq (.r [.mv 7 (.t 1),
 .len 8 (.t 7),
 .bin 9 .eql .num (.t 8) (.c (.d (.i .i64 0))),
 .kill [7, 8]])
 (.cond (.t 9)
 (.pre [.keep [], .drop [66]] (.seq (.r [.call 10 true [] (.c (.clo iTagText [])) [(.c (.d (.i .i64 0)))],
 .mv 4 (.t 10),
 .mv 5 (.c (.d (.b true))),
 .kill [10]])
 (.ret)))
 (.pre [.kill [9]] (.skip))))
 (.seq (.r [.fa 11 (.t 2) 0,
 .ld 12 1 false (.t 11),
 .mv 13 (.t 1),
 .call 14 true [] (.c (.clo iFindRes [])) [(.t 12), (.t 13)],
 .mv 6 (.t 14),
 .keep [6, 2]])
 (.seq (.seq (.r [.mv 15 (.t 6),
 .bin 16 .lss .num (.t 15) (.c (.d (.i .i64 0))),
 .kill [15]])
 (.cond (.t 16)
 (.pre [.keep [], .drop [66]] (.seq (.r [.mv 4 (.c (.d (.s []))),
 .mv 5 (.c (.d (.b false)))])
 (.ret)))
 (.pre [.kill [16]] (.skip))))
 (.seq (.r [.fa 17 (.t 2) 0,
 .ld 18 1 false (.t 17),
 .mv 19 (.t 6),
 .ia 20 5 (.t 18) (.t 19),
 .kill [2, 6, 17, 18, 19],
 .fa 21 (.t 20) 3,
 .ld 22 1 false (.t 21),
 .call 23 true [] (.c (.clo iTagText [])) [(.t 22)],
 .mv 4 (.t 23),
 .mv 5 (.c (.d (.b true))),
 .keep [5, 4],
 .drop [66]])
 (.ret)))))⟩
/-- live: [1, 2, 9, 13, 14, 15, 19, 20, 21]; objects: [] -/
def iEvalIf_l0 : C :=
 .seq (.r [.bin 22 .lss .num (.t 21) (.t 20)])
 (.seq (.cond (.t 22)
 (.pre [.kill [22]] (.skip))
 (.pre [.kill [19, 20, 21, 22]] (.ex 2)))
 (.seq (.blk 3 (.seq (.r [.ia 23 3 (.t 19) (.t 21),
 .ld 24 3 true (.t 23),
 .al 11 TCond false,
 .st 3 (.t 11) (.t 24),
 .kill [23, 24]])
 (.seq (.r [.fa 25 (.t 11) 2,
 .ld 26 1 false (.t 25),
 .mv 27 (.t 2),
 .bin 28 .eql .num (.t 26) (.t 27),
 .mv 12 (.t 28),
 .kill [25, 26, 27, 28]])
 (.seq (.seq (.r [.fa 29 (.t 11) 1,
 .ld 30 1 false (.t 29),
 .bin 31 .neq .num (.t 30) (.c (.d (.i .i64 0))),
 .kill [29, 30]])
 (.cond (.t 31)
 (.pre [.kill [12, 31]] (.r [.mv 32 (.t 1),
 .fa 33 (.t 11) 1,
 .ld 34 1 false (.t 33),
 .call 35 true [] (.c (.clo ihasInt [])) [(.t 32), (.t 34)],
 .mv 12 (.t 35),
 .kill [32, 33, 34, 35]]))
 (.pre [.kill [31]] (.skip))))
 (.r [.mv 36 (.t 9),
 .mv 37 (.t 36),
 .gd 37 true (some 38) (.mv 38 (.t 12)),
 .gd 37 true (some 39) (.fa 39 (.t 11) 0),
 .gd 37 true (some 40) (.ld 40 1 false (.t 39)),
 .kill [9, 11, 12, 36, 39],
 .gd 37 true (some 41) (.bin 41 .neq .flag (.t 38) (.t 40)),
 .pick 42 (.t 37) (.t 41) (.c (.d (.b false))),
 .mv 9 (.t 42),
 .kill [11, 12, 36, 37, 38, 39, 40, 41, 42],
 .drop [75]])))))
 (.r [.bin 43 .add .num (.t 21) (.c (.d (.i .i64 1))),
 .mv 21 (.t 43),
 .kill [43]])))
/-- live: [1, 2, 13, 14, 15]; objects: [] -/
def iEvalIf_l1 : C :=
 .seq (.r [.bin 16 .lss .num (.t 15) (.t 14)])
 (.seq (.cond (.t 16)
 (.pre [.kill [16]] (.skip))
 (.pre [.keep []] (.ex 0)))
 (.seq (.blk 1 (.seq (.r [.ia 17 1 (.t 13) (.t 15),
 .ld 18 1 false (.t 17),
 .mv 8 (.t 18),
 .kill [17, 18]])
 (.seq (.r [.mv 9 (.c (.d (.b true)))])
 (.seq (.seq (.r [.mv 19 (.t 8),
 .len 20 (.t 19),
 .mv 21 (.c (.d (.i .i64 0))),
 .kill [8]])
 (.blk 2 (.pre [.keep [21, 20, 19, 15, 14, 13, 9, 2, 1]] (.loop iEvalIf_l0))))
 (.seq (.r [.mv 44 (.t 9),
 .kill [9]])
 (.cond (.t 44)
 (.pre [.keep []] (.seq (.r [.mv 6 (.c (.d (.b true)))])
 (.ret)))
 (.pre [.kill [44]] (.skip))))))))
 (.r [.bin 45 .add .num (.t 15) (.c (.d (.i .i64 1))),
 .mv 15 (.t 45),
 .kill [45]])))
def iEvalIf_m : Fn := ⟨3, [.t 6], false,
 .seq (.r [.mv 6 (.c (.d (.b false))),
 .kill [6]])
 (.seq (.seq (.r [.mv 13 (.t 0),
 .len 14 (.t 13),
 .mv 15 (.c (.d (.i .i64 0))),
 .kill [0]])
 (.blk 0 (.pre [.keep [15, 14, 13, 2, 1]] (.loop iEvalIf_l1))))
 (.seq (.r [.mv 6 (.c (.d (.b false)))])
 (.ret)))⟩
/-- live: [1, 5, 8, 9, 10]; objects: [69] -/
def iTokensAt_l0 : C :=
 .seq (.r [.bin 11 .lss .num (.t 10) (.t 9)])
 (.seq (.cond (.t 11)
 (.pre [.kill [11]] (.skip))
 (.pre [.keep [5]] (.ex 0)))
 (.seq (.blk 1 (.seq (.r [.ia 12 5 (.t 8) (.t 10),
 .ld 13 5 true (.t 12),
 .al 7 TLock true,
 .st 5 (.t 7) (.t 13),
 .kill [12, 13]])
 (.seq (.r [.ld 14 5 true (.t 7),
 .mv 15 (.t 1),
 .call 16 true [] (.c (.clo iCovers [])) [(.t 14), (.t 15)],
 .kill [14, 15]])
 (.cond (.t 16)
 (.pre [.kill [16]] (.r [.mv 17 (.t 5),
 .fa 18 (.t 7) 0,
 .ld 19 1 false (.t 18),
 .bs 20 (.int .i64) false 1 [.d (.i .i64 0)] [(0, (.t 19))],
 .app 21 (.int .i64) false 8 (.t 17) (.t 20),
 .kill [5, 7, 17, 18, 19, 20],
 .mv 5 (.t 21),
 .ren 85 69,
 .keep [10, 9, 8, 5, 1],
 .drop [71, 84, 85]]))
 (.pre [.kill [7, 16], .drop [71]] (.skip))))))
 (.r [.bin 22 .add .num (.t 10) (.c (.d (.i .i64 1))),
 .mv 10 (.t 22),
 .kill [22]])))
def iTokensAt_m : Fn := ⟨2, [.t 4], false,
 .seq (.r [.mv 4 (.c (.nil (.int .i64))),
 .opn 4 4 false,
 .kill [4],
 .drop [68]])
 (.seq (.r [.mv 5 (.c (.nil (.int .i64))),
 .opn 5 5 false])
 (.seq (.seq (.r [.mv 8 (.t 0),
 .len 9 (.t 8),
 .mv 10 (.c (.d (.i .i64 0))),
 .kill [0]])
 (.blk 0 (.pre [.keep [10, 9, 8, 5, 1]] (.loop iTokensAt_l0))))
 (.seq (.r [.mv 23 (.t 5),
 .mv 4 (.t 23),
 .ren 69 68,
 .keep [4],
 .drop [69]])
 (.ret))))⟩
def iMatchOk_m : Fn := ⟨3, [.t 6], false,
 .seq (.r [.mv 6 (.c (.d (.b false))),
 .kill [6]])
 (.seq (.r [.mv 10 (.t 0),
 .mv 11 (.t 2),
 .call 12 true [] (.c (.clo itagged [])) [(.t 10), (.t 11)],
 .mv 9 (.t 12),
 .ext 13 (.t 9) 0,
 .ext 14 (.t 9) 1,
 .kill [2, 9, 10, 11, 12],
 .mv 7 (.t 13),
 .mv 8 (.t 14),
 .keep [8, 7, 1, 0]])
 (.seq (.r [.mv 15 (.t 1),
 .mv 16 (.t 15),
 .gd 16 true (some 17) (.mv 17 (.t 0)),
 .gd 16 true (some 18) (.bin 18 .eql .num (.t 17) (.c (.d (.s [42])))),
 .gd 16 true (some 19) (.mv 19 (.t 18)),
 .kill [0, 1, 15, 17, 18],
 .gd 19 false (some 20) (.mv 20 (.t 8)),
 .gd 19 false (some 21) (.mv 21 (.t 20)),
 .gd 21 true (some 22) (.mv 22 (.t 7)),
 .gd 19 false (some 23) (.pick 23 (.t 21) (.t 22) (.c (.d (.b false)))),
 .kill [7, 8, 20, 21, 22],
 .gd 16 true (some 24) (.pick 24 (.t 19) (.c (.d (.b true))) (.t 23)),
 .pick 25 (.t 16) (.t 24) (.c (.d (.b false))),
 .mv 6 (.t 25),
 .keep [6]])
 (.ret)))⟩
def iNoneOk_m : Fn := ⟨3, [.t 6], false,
 .seq (.r [.mv 6 (.c (.d (.b false))),
 .kill [6]])
 (.seq (.r [.mv 10 (.t 0),
 .mv 11 (.t 2),
 .call 12 true [] (.c (.clo itagged [])) [(.t 10), (.t 11)],
 .mv 9 (.t 12),
 .ext 13 (.t 9) 0,
 .ext 14 (.t 9) 1,
 .kill [2, 9, 10, 11, 12],
 .mv 7 (.t 13),
 .mv 8 (.t 14),
 .keep [8, 7, 1, 0]])
 (.seq (.r [.mv 15 (.t 1),
 .not 16 (.t 15),
 .mv 17 (.t 16),
 .gd 17 false (some 18) (.mv 18 (.t 0)),
 .gd 17 false (some 19) (.bin 19 .neq .num (.t 18) (.c (.d (.s [42])))),
 .kill [0, 1, 15, 16, 18],
 .gd 17 false (some 20) (.mv 20 (.t 19)),
 .gd 20 true (some 21) (.mv 21 (.t 8)),
 .gd 20 true (some 22) (.mv 22 (.t 21)),
 .gd 22 true (some 23) (.mv 23 (.t 7)),
 .gd 20 true (some 24) (.pick 24 (.t 22) (.t 23) (.c (.d (.b false)))),
 .kill [7, 8, 19, 21, 22, 23],
 .gd 20 true (some 25) (.not 25 (.t 24)),
 .gd 17 false (some 26) (.pick 26 (.t 20) (.t 25) (.c (.d (.b false)))),
 .pick 27 (.t 17) (.c (.d (.b true))) (.t 26),
 .kill [17, 20, 24, 25, 26],
 .mv 6 (.t 27),
 .keep [6]])
 (.ret)))⟩
def iMayChange_m : Fn := ⟨3, [.t 6], false,
 .seq (.r [.bx 3 TSrv true (.t 0),
 .bx 5 TAsk true (.t 2),
 .mv 6 (.c (.d (.b false))),
 .kill [0, 2, 6]])
 (.seq (.r [.mkf 12 iMayChange_1 [(.t 3), (.t 5)],
 .alf 7,
 .st 1 (.t 7) (.t 12),
 .kill [12]])
 (.seq (.r [.mkf 13 iMayChange_2 [(.t 7), (.t 5)],
 .mv 8 (.t 13),
 .kill [13]])
 (.seq (.r [.mkf 14 iMayChange_3 [(.t 7), (.t 5)],
 .mv 9 (.t 14),
 .kill [14]])
 (.seq (.seq (.r [.mv 15 (.t 1),
 .kill [1]])
 (.blk 0 (.seq (.r [.bin 17 .eql .num (.t 15) (.c (.d (.s [80, 85, 84]))),
 .mv 16 (.t 17),
 .kill [17]])
 (.cond (.t 16)
 (.pre [.keep [7, 5, 3]] (.seq (.r [.ld 19 6 true (.t 3),
 .fa 20 (.t 5) 0,
 .ld 21 1 false (.t 20),
 .call 22 true [] (.c (.clo iTagAt [])) [(.t 19), (.t 21)],
 .mv 18 (.t 22),
 .kill [3, 19, 20, 21, 22],
 .ext 23 (.t 18) 0,
 .ext 24 (.t 18) 1,
 .mv 10 (.t 23),
 .mv 11 (.t 24),
 .keep [11, 7, 5]])
 (.seq (.post (.r [.ld 25 1 false (.t 7),
 .fa 26 (.t 5) 0,
 .ld 27 1 false (.t 26),
 .call 28 true [] (.t 25) [(.t 27), (.c (.d (.b false)))],
 .mv 29 (.t 28),
 .gd 29 true (some 30) (.mv 30 (.t 11)),
 .gd 29 true (some 31) (.mv 31 (.t 30)),
 .gd 31 false (some 32) (.ld 32 1 false (.t 7)),
 .gd 31 false (some 33) (.fa 33 (.t 5) 0),
 .gd 31 false (some 34) (.ld 34 1 false (.t 33)),
 .gd 31 false (some 35) (.call 35 true [] (.c (.clo iAbove [])) [(.t 34)]),
 .gd 31 false (some 36) (.call 36 true [] (.t 32) [(.t 35), (.c (.d (.b false)))]),
 .gd 29 true (some 37) (.pick 37 (.t 31) (.c (.d (.b true))) (.t 36)),
 .pick 38 (.t 29) (.t 37) (.c (.d (.b false))),
 .mv 6 (.t 38)]) [.keep [6], .drop [67, 69, 71]])
 (.ret))))
 (.pre [.kill [3, 16]] (.seq (.r [.bin 40 .eql .num (.t 15) (.c (.d (.s [77, 75, 67, 79, 76]))),
 .mv 39 (.t 40),
 .kill [40]])
 (.cond (.t 39)
 (.pre [.keep [7, 5]] (.seq (.post (.r [.ld 41 1 false (.t 7),
 .fa 42 (.t 5) 0,
 .ld 43 1 false (.t 42),
 .call 44 true [] (.t 41) [(.t 43), (.c (.d (.b false)))],
 .mv 45 (.t 44),
 .gd 45 true (some 46) (.ld 46 1 false (.t 7)),
 .gd 45 true (some 47) (.fa 47 (.t 5) 0),
 .gd 45 true (some 48) (.ld 48 1 false (.t 47)),
 .gd 45 true (some 49) (.call 49 true [] (.c (.clo iAbove [])) [(.t 48)]),
 .gd 45 true (some 50) (.call 50 true [] (.t 46) [(.t 49), (.c (.d (.b false)))]),
 .pick 51 (.t 45) (.t 50) (.c (.d (.b false))),
 .mv 6 (.t 51)]) [.keep [6], .drop [67, 69, 71]])
 (.ret)))
 (.pre [.kill [39]] (.seq (.r [.bin 53 .eql .num (.t 15) (.c (.d (.s [80, 82, 79, 80, 80, 65, 84, 67, 72]))),
 .mv 52 (.t 53),
 .kill [53]])
 (.cond (.t 52)
 (.pre [.keep [7, 5]] (.seq (.r [.ld 54 1 false (.t 7),
 .fa 55 (.t 5) 0,
 .ld 56 1 false (.t 55),
 .call 57 true [] (.t 54) [(.t 56), (.c (.d (.b false)))],
 .kill [5, 7, 54, 55, 56],
 .mv 6 (.t 57),
 .keep [6],
 .drop [67, 69, 71]])
 (.ret)))
 (.pre [.kill [5, 7, 52]] (.seq (.r [.bin 59 .eql .num (.t 15) (.c (.d (.s [68, 69, 76, 69, 84, 69]))),
 .mv 58 (.t 59),
 .kill [59]])
 (.cond (.t 58)
 (.pre [.keep [8]] (.seq (.r [.mv 60 (.t 8),
 .call 61 true [] (.t 60) [],
 .mv 6 (.t 61),
 .keep [6],
 .drop [67, 69, 71]])
 (.ret)))
 (.pre [.kill [58]] (.seq (.r [.bin 63 .eql .num (.t 15) (.c (.d (.s [77, 79, 86, 69]))),
 .mv 62 (.t 63),
 .kill [63]])
 (.cond (.t 62)
 (.pre [.kill [15, 62]] (.seq (.r [.mv 64 (.t 8),
 .call 65 true [] (.t 64) [],
 .mv 66 (.t 65),
 .gd 66 true (some 67) (.mv 67 (.t 9)),
 .gd 66 true (some 68) (.call 68 true [] (.t 67) []),
 .kill [8, 9, 64, 65, 67],
 .pick 69 (.t 66) (.t 68) (.c (.d (.b false))),
 .mv 6 (.t 69),
 .keep [6],
 .drop [67, 69, 71]])
 (.ret)))
 (.pre [.kill [8, 62]] (.seq (.r [.bin 71 .eql .num (.t 15) (.c (.d (.s [67, 79, 80, 89]))),
 .mv 70 (.t 71),
 .kill [15, 71]])
 (.cond (.t 70)
 (.pre [.kill [70]] (.seq (.r [.mv 72 (.t 9),
 .call 73 true [] (.t 72) [],
 .mv 6 (.t 73),
 .keep [6],
 .drop [67, 69, 71]])
 (.ret)))
 (.pre [.keep [], .drop [67, 69, 71]] (.skip)))))))))))))))))))))
 (.seq (.r [.mv 6 (.c (.d (.b true)))])
 (.ret))))))⟩
def ietag_m : Fn := ⟨2, [.cell 4 3 true], false,
 .seq (.r [.al 4 TResp false])
 (.seq (.r [.mv 5 (.t 0),
 .mv 6 (.t 1),
 .bd 7 [.d (.s []), .d (.s [])] [(0, 1, (.c (.d (.s [101, 116, 97, 103])))), (1, 1, (.t 6))],
 .bs 8 THead false 1 [.d (.s []), .d (.s [])] [(0, (.t 7))],
 .bd 9 [.d (.i .i64 0), .nil THead, .d (.s [])] [(0, 1, (.t 5)), (1, 1, (.t 8))],
 .kill [0, 1, 5, 6, 7, 8],
 .st 3 (.t 4) (.t 9),
 .keep [4],
 .drop [72]])
 (.ret))⟩
def iParseNode_m : Fn := ⟨1, [.cell 2 4 true, .t 3], false,
 .seq (.r [.al 2 .node false,
 .mv 3 (.c (.d (.b false))),
 .kill [3]])
 (.seq (.r [.mv 9 (.t 0),
 .call 10 false [] (.c (.clo iPieces [])) [(.t 9)],
 .mv 8 (.t 10),
 .ext 11 (.t 8) 0,
 .ext 12 (.t 8) 1,
 .mv 4 (.t 11),
 .kill [0, 8, 9, 10, 11],
 .mv 5 (.t 12),
 .keep [5, 4, 2]])
 (.seq (.r [.mv 13 (.t 4),
 .bd 14 [.nil TPiece, .d (.i .i64 0), .d (.b false)] [(0, 1, (.t 13))],
 .bx 15 Tnodes false (.t 14),
 .mv 6 (.t 15),
 .kill [13, 14, 15]])
 (.seq (.r [.mv 16 (.t 6),
 .call 17 true [79] (.c (.clo inodes_blanks [])) [(.t 16)],
 .kill [16, 17]])
 (.seq (.r [.mv 18 (.t 6),
 .call 19 false [79] (.c (.clo inodes_node [])) [(.t 18), (.c (.d (.s []))), (.c (.d (.i .i64 1)))],
 .al 7 .node false,
 .st 4 (.t 7) (.t 19),
 .kill [18, 19],
 .drop [20067]])
 (.seq (.r [.mv 20 (.t 6),
 .call 21 true [79] (.c (.clo inodes_blanks [])) [(.t 20)],
 .kill [20, 21]])
 (.seq (.seq (.r [.mv 22 (.t 5),
 .not 23 (.t 22),
 .mv 24 (.t 23),
 .gd 24 false (some 25) (.mv 25 (.t 6)),
 .gd 24 false (some 26) (.nchk 26 (.t 25)),
 .gd 24 false (some 27) (.fa 27 (.t 26) 2),
 .kill [5, 22, 23, 25, 26],
 .gd 24 false (some 28) (.ld 28 1 false (.t 27)),
 .pick 29 (.t 24) (.c (.d (.b true))) (.t 28),
 .mv 30 (.t 29),
 .gd 30 false (some 31) (.mv 31 (.t 6)),
 .kill [6, 24, 27, 28, 29],
 .gd 30 false (some 32) (.nchk 32 (.t 31)),
 .gd 30 false (some 33) (.fa 33 (.t 32) 1),
 .gd 30 false (some 34) (.ld 34 1 false (.t 33)),
 .gd 30 false (some 35) (.mv 35 (.t 4)),
 .gd 30 false (some 36) (.len 36 (.t 35)),
 .kill [4, 31, 32, 33, 35],
 .gd 30 false (some 37) (.bin 37 .neq .num (.t 34) (.t 36)),
 .pick 38 (.t 30) (.c (.d (.b true))) (.t 37),
 .mv 39 (.t 38),
 .kill [30, 34, 36, 37, 38],
 .gd 39 false (some 40) (.ld 40 4 true (.t 7)),
 .gd 39 false (some 41) (.call 41 true [] (.c (.clo iNodeOk [])) [(.t 40)]),
 .gd 39 false (some 42) (.not 42 (.t 41)),
 .pick 43 (.t 39) (.c (.d (.b true))) (.t 42),
 .keep [43, 7, 2],
 .drop [79, 11064]])
 (.cond (.t 43)
 (.pre [.keep [2], .drop [71]] (.seq (.r [.bd 44 [.d (.s []), .d (.s []), .d (.s []), .nil .node] [],
 .st 4 (.t 2) (.t 44),
 .mv 3 (.c (.d (.b false))),
 .kill [44]])
 (.ret)))
 (.pre [.kill [43]] (.skip))))
 (.seq (.r [.ldt 45 4 true (.t 7),
 .st 4 (.t 2) (.t 45),
 .mv 3 (.c (.d (.b true))),
 .kill [7, 45],
 .drop [71, 46067]])
 (.ret))))))))⟩
/-- live: [4, 6, 14, 15, 16, 46, 47, 48]; objects: [68, 70] -/
def iSetsOf_l0 : C :=
 .seq (.r [.bin 49 .lss .num (.t 48) (.t 47)])
 (.seq (.cond (.t 49)
 (.pre [.kill [49]] (.skip))
 (.pre [.keep [16, 15, 14, 4], .drop [70]] (.ex 2)))
 (.seq (.blk 3 (.seq (.r [.ia 50 4 (.t 46) (.t 48),
 .ld 51 4 true (.t 50),
 .al 8 .node true,
 .st 4 (.t 8) (.t 51),
 .kill [50, 51]])
 (.seq (.r [.fa 52 (.t 6) 1,
 .ld 53 1 false (.t 52),
 .bin 54 .eql .num (.t 53) (.c (.d (.s [114, 101, 109, 111, 118, 101]))),
 .fa 55 (.t 8) 0,
 .ld 56 1 false (.t 55),
 .fa 57 (.t 8) 1,
 .ld 58 1 false (.t 57),
 .fa 59 (.t 8) 2,
 .ld 60 1 false (.t 59),
 .kill [52, 53, 55, 57, 59],
 .bd 61 [.d (.s []), .d (.s []), .d (.s [])] [(0, 1, (.t 56)), (1, 1, (.t 58)), (2, 1, (.t 60))],
 .bd 62 [.d (.b false), .d (.s []), .d (.s []), .d (.s [])] [(0, 1, (.t 54)), (1, 3, (.t 61))],
 .kill [54, 56, 58, 60, 61],
 .al 9 TSet false,
 .st 4 (.t 9) (.t 62),
 .keep [48, 47, 46, 16, 15, 14, 9, 8, 6, 4]])
 (.seq (.seq (.r [.fa 63 (.t 9) 0,
 .ld 64 1 false (.t 63),
 .kill [63]])
 (.cond (.t 64)
 (.pre [.kill [64]] (.r [.fa 65 (.t 9) 1,
 .fa 66 (.t 65) 2,
 .st 1 (.t 66) (.c (.d (.s []))),
 .kill [65, 66]]))
 (.pre [.kill [64]] (.skip))))
 (.seq (.seq (.r [.fa 67 (.t 8) 3,
 .ld 68 1 false (.t 67),
 .len 69 (.t 68),
 .bin 70 .gtr .num (.t 69) (.c (.d (.i .i64 0))),
 .mv 71 (.t 70),
 .kill [8, 67, 68, 69, 70],
 .gd 71 false (some 72) (.mv 72 (.t 4)),
 .gd 71 false (some 73) (.len 73 (.t 72)),
 .gd 71 false (some 74) (.bin 74 .geq .num (.t 73) (.c (.d (.i .i64 8)))),
 .pick 75 (.t 71) (.c (.d (.b true))) (.t 74),
 .kill [8, 67, 68, 69, 70, 71, 72, 73, 74],
 .drop [72]])
 (.cond (.t 75)
 (.pre [.keep [], .drop [68, 70, 73]] (.seq (.r [.mv 2 (.c (.nil TSet)),
 .opn 2 2 false,
 .mv 3 (.c (.d (.b false)))])
 (.ret)))
 (.pre [.kill [75]] (.skip))))
 (.r [.mv 76 (.t 4),
 .ld 77 4 true (.t 9),
 .bs 78 TSet false 1 [.d (.b false), .d (.s []), .d (.s []), .d (.s [])] [(0, (.t 77))],
 .app 79 TSet false 56 (.t 76) (.t 78),
 .kill [4, 9, 76, 77, 78],
 .mv 4 (.t 79),
 .ren 143 68,
 .kill [9, 76, 77, 78, 79],
 .drop [73, 142, 143]]))))))
 (.r [.bin 80 .add .num (.t 48) (.c (.d (.i .i64 1))),
 .mv 48 (.t 80),
 .kill [80]])))
/-- live: [4, 14, 15, 16]; objects: [68] -/
def iSetsOf_l1 : C :=
 .seq (.r [.bin 17 .lss .num (.t 16) (.t 15)])
 (.seq (.cond (.t 17)
 (.pre [.kill [17]] (.skip))
 (.pre [.keep [4]] (.ex 0)))
 (.seq (.blk 1 (.seq (.r [.ia 18 4 (.t 14) (.t 16),
 .ld 19 4 true (.t 18),
 .al 6 .node true,
 .st 4 (.t 6) (.t 19),
 .kill [18, 19]])
 (.seq (.seq (.r [.ld 20 4 true (.t 6),
 .call 21 true [] (.c (.clo iisDav [])) [(.t 20), (.c (.d (.s [115, 101, 116])))],
 .not 22 (.t 21),
 .mv 23 (.t 22),
 .gd 23 true (some 24) (.ld 24 4 true (.t 6)),
 .gd 23 true (some 25) (.call 25 true [] (.c (.clo iisDav [])) [(.t 24), (.c (.d (.s [114, 101, 109, 111, 118, 101])))]),
 .gd 23 true (some 26) (.not 26 (.t 25)),
 .kill [20, 21, 22, 24, 25],
 .pick 27 (.t 23) (.t 26) (.c (.d (.b false))),
 .mv 28 (.t 27),
 .gd 28 false (some 29) (.fa 29 (.t 6) 3),
 .gd 28 false (some 30) (.ld 30 1 false (.t 29)),
 .gd 28 false (some 31) (.len 31 (.t 30)),
 .kill [23, 26, 27, 29, 30],
 .gd 28 false (some 32) (.bin 32 .neq .num (.t 31) (.c (.d (.i .i64 1)))),
 .pick 33 (.t 28) (.c (.d (.b true))) (.t 32),
 .mv 34 (.t 33),
 .gd 34 false (some 35) (.fa 35 (.t 6) 3),
 .gd 34 false (some 36) (.ld 36 1 false (.t 35)),
 .kill [28, 31, 32, 33, 35],
 .gd 34 false (some 37) (.ia 37 4 (.t 36) (.c (.d (.i .i64 0)))),
 .gd 34 false (some 38) (.ld 38 4 true (.t 37)),
 .gd 34 false (some 39) (.call 39 true [] (.c (.clo iisDav [])) [(.t 38), (.c (.d (.s [112, 114, 111, 112])))]),
 .gd 34 false (some 40) (.not 40 (.t 39)),
 .pick 41 (.t 34) (.c (.d (.b true))) (.t 40),
 .keep [41, 16, 15, 14, 6, 4]])
 (.cond (.t 41)
 (.pre [.keep [], .drop [68, 70]] (.seq (.r [.mv 2 (.c (.nil TSet)),
 .opn 2 2 false,
 .mv 3 (.c (.d (.b false)))])
 (.ret)))
 (.pre [.kill [41]] (.skip))))
 (.seq (.r [.fa 42 (.t 6) 3,
 .ld 43 1 false (.t 42),
 .ia 44 4 (.t 43) (.c (.d (.i .i64 0))),
 .fa 45 (.t 44) 3,
 .ld 46 1 false (.t 45),
 .len 47 (.t 46),
 .mv 48 (.c (.d (.i .i64 0))),
 .kill [42, 43, 44, 45]])
 (.blk 2 (.pre [.keep [48, 47, 46, 16, 15, 14, 6, 4]] (.loop iSetsOf_l0)))))))
 (.r [.bin 81 .add .num (.t 16) (.c (.d (.i .i64 1))),
 .mv 16 (.t 81),
 .kill [81]])))
def iSetsOf_m : Fn := ⟨1, [.t 2, .t 3], false,
 .seq (.r [.bx 1 .node true (.t 0),
 .mv 2 (.c (.nil TSet)),
 .opn 2 2 false,
 .mv 3 (.c (.d (.b false))),
 .keep [1],
 .drop [66]])
 (.seq (.seq (.r [.ld 10 4 true (.t 1),
 .call 11 true [] (.c (.clo iisDav [])) [(.t 10), (.c (.d (.s [112, 114, 111, 112, 101, 114, 116, 121, 117, 112, 100, 97, 116, 101])))],
 .not 12 (.t 11),
 .kill [10, 11]])
 (.cond (.t 12)
 (.pre [.keep [], .drop [65]] (.seq (.r [.mv 2 (.c (.nil TSet)),
 .opn 2 2 false,
 .mv 3 (.c (.d (.b false)))])
 (.ret)))
 (.pre [.kill [12]] (.skip))))
 (.seq (.r [.mv 4 (.c (.nil TSet)),
 .opn 4 4 false])
 (.seq (.seq (.r [.fa 13 (.t 1) 3,
 .ld 14 1 false (.t 13),
 .len 15 (.t 14),
 .mv 16 (.c (.d (.i .i64 0))),
 .kill [1, 13],
 .drop [65]])
 (.blk 0 (.pre [.keep [16, 15, 14, 4]] (.loop iSetsOf_l1))))
 (.seq (.r [.mv 82 (.t 4),
 .mv 2 (.t 82),
 .ren 68 66,
 .mv 3 (.c (.d (.b true))),
 .kill [4, 82],
 .drop [68]])
 (.ret)))))⟩
def iPatch_m : Fn := ⟨3, [.t 6, .t 7], false,
 .seq (.r [.mv 6 (.c (.nil TRes)),
 .opn 6 6 false,
 .mv 7 (.c (.d (.i .i64 0))),
 .kill [6, 7],
 .drop [70]])
 (.seq (.r [.mv 12 (.t 0),
 .call 13 false [] (.c (.clo icopyTree [])) [(.t 12)],
 .mv 8 (.t 13),
 .kill [12, 13]])
 (.seq (.r [.mv 14 (.t 0),
 .mv 15 (.t 1),
 .call 16 true [] (.c (.clo iFindRes [])) [(.t 14), (.t 15)],
 .mv 9 (.t 16),
 .kill [14, 15, 16]])
 (.seq (.blk 0 (.seq (.r [.mv 18 (.t 0),
 .call 19 true [] (.c (.clo iTreeOk [])) [(.t 18)],
 .not 20 (.t 19),
 .mv 17 (.t 20),
 .kill [18, 19, 20]])
 (.cond (.t 17)
 (.pre [.keep [8]] (.seq (.r [.mv 21 (.t 8),
 .mv 6 (.t 21),
 .ren 14064 70,
 .mv 7 (.c (.d (.i .i64 500))),
 .kill [8, 21],
 .drop [14064]])
 (.ret)))
 (.pre [.kill [17]] (.seq (.r [.mv 23 (.t 1),
 .len 24 (.t 23),
 .bin 25 .eql .num (.t 24) (.c (.d (.i .i64 0))),
 .mv 22 (.t 25),
 .kill [1, 23, 24, 25]])
 (.cond (.t 22)
 (.pre [.keep [8]] (.seq (.r [.mv 26 (.t 8),
 .mv 6 (.t 26),
 .ren 14064 70,
 .mv 7 (.c (.d (.i .i64 403))),
 .kill [8, 26],
 .drop [14064]])
 (.ret)))
 (.pre [.kill [22]] (.seq (.r [.mv 28 (.t 9),
 .bin 29 .lss .num (.t 28) (.c (.d (.i .i64 0))),
 .mv 27 (.t 29),
 .kill [28, 29]])
 (.cond (.t 27)
 (.pre [.keep [8]] (.seq (.r [.mv 30 (.t 8),
 .mv 6 (.t 30),
 .ren 14064 70,
 .mv 7 (.c (.d (.i .i64 404))),
 .kill [8, 30],
 .drop [14064]])
 (.ret)))
 (.pre [.kill [27]] (.skip)))))))))))
 (.seq (.r [.mv 32 (.t 0),
 .mv 33 (.t 9),
 .ia 34 5 (.t 32) (.t 33),
 .fa 35 (.t 34) 4,
 .ld 36 1 false (.t 35),
 .kill [0, 32, 33, 34, 35],
 .mv 37 (.t 2),
 .call 38 false [] (.c (.clo iSetProps [])) [(.t 36), (.t 37)],
 .mv 31 (.t 38),
 .ext 39 (.t 31) 0,
 .ext 40 (.t 31) 1,
 .kill [2, 31, 36, 37, 38],
 .mv 10 (.t 39),
 .mv 11 (.t 40),
 .keep [11, 10, 9, 8]])
 (.seq (.seq (.r [.mv 41 (.t 11),
 .not 42 (.t 41),
 .kill [11, 41]])
 (.cond (.t 42)
 (.pre [.keep [8], .drop [39064]] (.seq (.r [.mv 43 (.t 8),
 .mv 6 (.t 43),
 .ren 14064 70,
 .mv 7 (.c (.d (.i .i64 409))),
 .kill [8, 43],
 .drop [14064]])
 (.ret)))
 (.pre [.kill [42]] (.skip))))
 (.seq (.r [.mv 44 (.t 8),
 .mv 45 (.t 9),
 .mv 46 (.t 10),
 .ia 47 5 (.t 44) (.t 45),
 .fa 48 (.t 47) 4,
 .kill [9, 10, 44, 45, 47],
 .st 1 (.t 48) (.t 46),
 .keep [8],
 .drop [39064]])
 (.seq (.r [.mv 49 (.t 8),
 .mv 6 (.t 49),
 .ren 14064 70,
 .mv 7 (.c (.d (.i .i64 207))),
 .kill [8, 49],
 .drop [14064]])
 (.ret))))))))⟩
def iNodeText_m : Fn := ⟨1, [.t 2], false,
 .seq (.r [.bx 1 .node true (.t 0),
 .mv 2 (.c (.d (.s []))),
 .keep [1]])
 (.seq (.seq (.r [.ld 3 4 true (.t 1),
 .call 4 true [] (.c (.clo iNodeOk [])) [(.t 3)],
 .not 5 (.t 4),
 .kill [3, 4]])
 (.cond (.t 5)
 (.pre [.keep [], .drop [65]] (.seq (.r [.mv 2 (.c (.d (.s [])))])
 (.ret)))
 (.pre [.kill [5]] (.skip))))
 (.seq (.r [.ld 6 4 true (.t 1),
 .call 7 true [] (.c (.clo inodeText [])) [(.t 6), (.c (.d (.s [])))],
 .mv 2 (.t 7),
 .keep [2],
 .drop [65]])
 (.ret)))⟩
/-- live: [1, 4, 5, 8, 9, 13, 14, 15, 37, 38, 39]; objects: [68, 69, 72, 73] -/
def iMultiNode_l0 : C :=
 .seq (.r [.bin 40 .lss .num (.t 39) (.t 38)])
 (.seq (.cond (.t 40)
 (.pre [.kill [40]] (.skip))
 (.pre [.kill [37, 38, 39, 40]] (.ex 2)))
 (.seq (.blk 3 (.seq (.r [.ia 41 3 (.t 37) (.t 39),
 .ld 42 3 true (.t 41),
 .al 11 TProp false,
 .st 3 (.t 11) (.t 42),
 .kill [41, 42]])
 (.r [.fa 43 (.t 9) 3,
 .ldm 44 (.t 43),
 .fa 45 (.t 11) 0,
 .ld 46 1 false (.t 45),
 .fa 47 (.t 11) 1,
 .ld 48 1 false (.t 47),
 .fa 49 (.t 11) 2,
 .ld 50 1 false (.t 49),
 .kill [11, 43, 45, 47, 49],
 .bd 51 [.d (.s []), .d (.s []), .d (.s []), .nil .node] [(0, 1, (.t 46)), (1, 1, (.t 48)), (2, 1, (.t 50))],
 .bs 52 .node false 1 [.d (.s []), .d (.s []), .d (.s []), .nil .node] [(0, (.t 51))],
 .app 53 .node false 72 (.t 44) (.t 52),
 .kill [44, 46, 48, 50, 51, 52],
 .fa 54 (.t 9) 3,
 .st 1 (.t 54) (.t 53),
 .keep [39, 38, 37, 15, 14, 13, 9, 8, 5, 4, 1],
 .drop [75, 108, 116, 117]])))
 (.r [.bin 55 .add .num (.t 39) (.c (.d (.i .i64 1))),
 .mv 39 (.t 55),
 .kill [55]])))
/-- live: [1, 4, 5, 13, 14, 15]; objects: [68, 69] -/
def iMultiNode_l1 : C :=
 .seq (.r [.bin 16 .lss .num (.t 15) (.t 14)])
 (.seq (.cond (.t 16)
 (.pre [.kill [16]] (.skip))
 (.pre [.keep [5, 4]] (.ex 0)))
 (.seq (.blk 1 (.seq (.r [.mv 17 (.t 15),
 .ia 18 2 (.t 13) (.t 15),
 .ld 19 2 true (.t 18),
 .al 7 TItem true,
 .mv 6 (.t 17),
 .st 2 (.t 7) (.t 19),
 .kill [17, 18, 19]])
 (.seq (.post (.r [.an [72] [] [] [] (.fa 20 (.t 7) 0),
 .an [72] [] [] [] (.ld 21 1 false (.t 20)),
 .an [72] [] [23064] [] (.call 22 true [] (.c (.clo iPathText [])) [(.t 21)]),
 .an [72] [] [24064] [] (.call 23 false [] (.c (.clo itextNode [])) [(.c (.d (.s [104, 114, 101, 102]))), (.t 22)]),
 .an [72, 23064, 24064] [] [] [] (.fa 24 (.t 7) 1),
 .an [72, 23064, 24064] [] [] [] (.ld 25 1 false (.t 24)),
 .an [72] [] [27064] [] (.call 26 false [] (.c (.clo itextNode [])) [(.c (.d (.s [116, 97, 103]))), (.t 25)]),
 .an [72] [] [91, 24064, 27064] [] (.bs 27 .node false 2 [.d (.s []), .d (.s []), .d (.s []), .nil .node] [(0, (.t 23)), (1, (.t 26))]),
 .an [72] [] [91, 29064] [91] (.call 28 false [91] (.c (.clo idavNode [])) [(.c (.d (.s [114, 101, 115, 112, 111, 110, 115, 101]))), (.t 27)]),
 .an [91, 23064, 24064, 27064, 29064] [91] [72] [] (.al 8 .node false),
 .an [] [] [29064] [72] (.st 4 (.t 8) (.t 28))]) [.keep [15, 14, 13, 8, 6, 5, 4, 1], .drop [71, 91, 24067, 27067, 29067]])
 (.seq (.seq (.r [.mv 29 (.t 6),
 .bin 30 .eql .num (.t 29) (.c (.d (.i .i64 0))),
 .mv 31 (.t 30),
 .gd 31 true (some 32) (.mv 32 (.t 1)),
 .gd 31 true (some 33) (.len 33 (.t 32)),
 .gd 31 true (some 34) (.bin 34 .gtr .num (.t 33) (.c (.d (.i .i64 0)))),
 .kill [6, 29, 30, 32, 33],
 .pick 35 (.t 31) (.t 34) (.c (.d (.b false))),
 .kill [6, 29, 30, 31, 32, 33, 34]])
 (.cond (.t 35)
 (.pre [.kill [35]] (.seq (.r [.call 36 false [] (.c (.clo idavNode [])) [(.c (.d (.s [112, 114, 111, 112]))), (.c (.nil .node))],
 .al 9 .node false,
 .st 4 (.t 9) (.t 36),
 .kill [36],
 .drop [37067]])
 (.seq (.seq (.r [.mv 37 (.t 1),
 .len 38 (.t 37),
 .mv 39 (.c (.d (.i .i64 0)))])
 (.blk 2 (.pre [.keep [39, 38, 37, 15, 14, 13, 9, 8, 5, 4, 1]] (.loop iMultiNode_l0))))
 (.r [.fa 56 (.t 8) 3,
 .ldm 57 (.t 56),
 .ldt 58 4 true (.t 9),
 .bs 59 .node false 1 [.d (.s []), .d (.s []), .d (.s []), .nil .node] [(0, (.t 58))],
 .app 60 .node false 72 (.t 57) (.t 59),
 .kill [9, 56, 57, 58, 59],
 .fa 61 (.t 8) 3,
 .st 1 (.t 61) (.t 60),
 .kill [9, 56, 57, 58, 59, 60, 61],
 .drop [73, 121, 123, 124, 59067]]))))
 (.pre [.kill [35]] (.skip))))
 (.r [.fa 62 (.t 5) 3,
 .ldm 63 (.t 62),
 .ldt 64 4 true (.t 8),
 .bs 65 .node false 1 [.d (.s []), .d (.s []), .d (.s []), .nil .node] [(0, (.t 64))],
 .app 66 .node false 72 (.t 63) (.t 65),
 .kill [8, 62, 63, 64, 65],
 .fa 67 (.t 5) 3,
 .st 1 (.t 67) (.t 66),
 .keep [15, 14, 13, 5, 4, 1],
 .drop [72, 127, 129, 130, 65067]])))))
 (.r [.bin 68 .add .num (.t 15) (.c (.d (.i .i64 1))),
 .mv 15 (.t 68),
 .kill [68]])))
def iMultiNode_m : Fn := ⟨2, [.cell 4 4 true], false,
 .seq (.r [.al 4 .node false])
 (.seq (.r [.call 12 false [] (.c (.clo idavNode [])) [(.c (.d (.s [109, 117, 108, 116, 105, 115, 116, 97, 116, 117, 115]))), (.c (.nil .node))],
 .al 5 .node false,
 .st 4 (.t 5) (.t 12),
 .kill [12],
 .drop [13067]])
 (.seq (.seq (.r [.mv 13 (.t 0),
 .len 14 (.t 13),
 .mv 15 (.c (.d (.i .i64 0))),
 .kill [0]])
 (.blk 0 (.pre [.keep [15, 14, 13, 5, 4, 1]] (.loop iMultiNode_l1))))
 (.seq (.r [.ldt 69 4 true (.t 5),
 .st 4 (.t 4) (.t 69),
 .keep [4],
 .drop [69, 70067]])
 (.ret))))⟩
/-- live: [1, 2, 3, 9, 36, 37, 38]; objects: [67, 73] -/
def iItemsOf_l0 : C :=
 .seq (.r [.bin 39 .lss .num (.t 38) (.t 37)])
 (.seq (.cond (.t 39)
 (.pre [.kill [39]] (.skip))
 (.pre [.kill [36, 37, 38, 39]] (.ex 0)))
 (.seq (.blk 1 (.seq (.r [.ia 40 1 (.t 36) (.t 38),
 .ld 41 1 false (.t 40),
 .mv 11 (.t 41),
 .kill [40, 41]])
 (.r [.mv 42 (.t 9),
 .ld 43 6 true (.t 3),
 .mv 44 (.t 11),
 .call 45 false [] (.c (.clo iitem [])) [(.t 43), (.t 44)],
 .bs 46 TItem false 1 [.nil .str, .d (.s [])] [(0, (.t 45))],
 .kill [9, 11, 43, 44, 45],
 .app 47 TItem false 40 (.t 42) (.t 46),
 .mv 9 (.t 47),
 .ren 111 73,
 .kill [11, 42, 43, 44, 45, 46, 47],
 .drop [110, 111, 46064]])))
 (.r [.bin 48 .add .num (.t 38) (.c (.d (.i .i64 1))),
 .mv 38 (.t 48),
 .kill [48]])))
/-- live: [1, 3, 9, 52, 53, 54]; objects: [67, 73] -/
def iItemsOf_l1 : C :=
 .seq (.r [.bin 55 .lss .num (.t 54) (.t 53)])
 (.seq (.cond (.t 55)
 (.pre [.kill [55]] (.skip))
 (.pre [.keep [9], .drop [67]] (.ex 2)))
 (.seq (.blk 3 (.seq (.r [.ia 56 5 (.t 52) (.t 54),
 .ld 57 5 true (.t 56),
 .al 13 TRes true,
 .st 5 (.t 13) (.t 57),
 .kill [56, 57]])
 (.seq (.r [.fa 58 (.t 13) 0,
 .ld 59 1 false (.t 58),
 .mv 60 (.t 1),
 .call 61 true [] (.c (.clo iUnder [])) [(.t 59), (.t 60)],
 .kill [58, 59, 60]])
 (.cond (.t 61)
 (.pre [.kill [61]] (.r [.mv 62 (.t 9),
 .ld 63 6 true (.t 3),
 .fa 64 (.t 13) 0,
 .ld 65 1 false (.t 64),
 .call 66 false [] (.c (.clo iitem [])) [(.t 63), (.t 65)],
 .kill [9, 13, 63, 64, 65],
 .bs 67 TItem false 1 [.nil .str, .d (.s [])] [(0, (.t 66))],
 .app 68 TItem false 40 (.t 62) (.t 67),
 .mv 9 (.t 68),
 .ren 132 73,
 .keep [54, 53, 52, 9, 3, 1],
 .drop [77, 131, 132, 67064]]))
 (.pre [.kill [13, 61], .drop [77]] (.skip))))))
 (.r [.bin 69 .add .num (.t 54) (.c (.d (.i .i64 1))),
 .mv 54 (.t 69),
 .kill [69]])))
def iItemsOf_m : Fn := ⟨3, [.t 6], false,
 .seq (.r [.bx 3 TSrv true (.t 0),
 .mv 6 (.c (.nil TItem)),
 .opn 6 6 false,
 .kill [0, 6],
 .drop [70]])
 (.seq (.seq (.r [.ld 15 6 true (.t 3),
 .mv 16 (.t 1),
 .call 17 true [] (.c (.clo iTagAt [])) [(.t 15), (.t 16)],
 .mv 14 (.t 17),
 .ext 18 (.t 14) 0,
 .ext 19 (.t 14) 1,
 .mv 7 (.t 18),
 .kill [7, 14, 15, 16, 17, 18],
 .mv 8 (.t 19),
 .keep [8, 3, 2, 1]])
 (.seq (.r [.mv 20 (.t 8),
 .not 21 (.t 20),
 .mv 22 (.t 21),
 .gd 22 false (some 23) (.mv 23 (.t 2)),
 .gd 22 false (some 24) (.call 24 true [] (.c (.clo iin [])) [(.t 23), (.c (.d (.i .i64 0))), (.c (.d (.i .i64 2)))]),
 .gd 22 false (some 25) (.not 25 (.t 24)),
 .kill [8, 20, 21, 23, 24],
 .pick 26 (.t 22) (.c (.d (.b true))) (.t 25),
 .keep [26, 3, 2, 1]])
 (.cond (.t 26)
 (.pre [.keep [], .drop [67]] (.seq (.r [.mv 6 (.c (.nil TItem)),
 .opn 6 6 false])
 (.ret)))
 (.pre [.kill [26]] (.skip)))))
 (.seq (.r [.ld 27 6 true (.t 3),
 .mv 28 (.t 1),
 .call 29 false [] (.c (.clo iitem [])) [(.t 27), (.t 28)],
 .bs 30 TItem false 1 [.nil .str, .d (.s [])] [(0, (.t 29))],
 .mv 9 (.t 30),
 .ren 94 73,
 .kill [27, 28, 29, 30],
 .drop [94, 30064]])
 (.seq (.seq (.r [.mv 31 (.t 2),
 .bin 32 .eql .num (.t 31) (.c (.d (.i .i64 1))),
 .kill [31]])
 (.cond (.t 32)
 (.pre [.kill [32]] (.seq (.r [.fa 33 (.t 3) 0,
 .ld 34 1 false (.t 33),
 .mv 35 (.t 1),
 .call 36 true [] (.c (.clo iKidsOf [])) [(.t 34), (.t 35)],
 .len 37 (.t 36),
 .mv 38 (.c (.d (.i .i64 0))),
 .kill [33, 34, 35]])
 (.blk 0 (.pre [.keep [38, 37, 36, 9, 3, 2, 1]] (.loop iItemsOf_l0)))))
 (.pre [.kill [32]] (.skip))))
 (.seq (.seq (.r [.mv 49 (.t 2),
 .bin 50 .eql .num (.t 49) (.c (.d (.i .i64 2))),
 .kill [2, 49]])
 (.cond (.t 50)
 (.pre [.kill [50]] (.seq (.r [.fa 51 (.t 3) 0,
 .ld 52 1 false (.t 51),
 .len 53 (.t 52),
 .mv 54 (.c (.d (.i .i64 0))),
 .kill [51]])
 (.blk 2 (.pre [.keep [54, 53, 52, 9, 3, 1]] (.loop iItemsOf_l1)))))
 (.pre [.keep [9], .drop [67]] (.skip))))
 (.seq (.r [.mv 70 (.t 9),
 .mv 6 (.t 70),
 .ren 73 70,
 .keep [6],
 .drop [73]])
 (.ret))))))⟩
def ilockHeads_m : Fn := ⟨1, [.t 2, .t 3, .t 4], false,
 .seq (.r [.bx 1 TReq true (.t 0),
 .mv 2 (.c (.d (.i .i64 0))),
 .mv 3 (.c (.d (.b false))),
 .mv 4 (.c (.d (.b false))),
 .keep [1]])
 (.seq (.r [.mv 5 (.c (.d (.i .i64 100)))])
 (.seq (.seq (.r [.fa 13 (.t 1) 2,
 .ld 14 1 false (.t 13),
 .call 15 true [] (.c (.clo iHeadOf [])) [(.t 14), (.c (.d (.s [116, 105, 109, 101, 111, 117, 116])))],
 .mv 12 (.t 15),
 .ext 16 (.t 12) 0,
 .ext 17 (.t 12) 1,
 .mv 6 (.t 16),
 .kill [12, 13, 14, 15, 16],
 .mv 7 (.t 17),
 .keep [7, 6, 5, 1]])
 (.seq (.r [.mv 18 (.t 7),
 .kill [7]])
 (.cond (.t 18)
 (.pre [.kill [5, 18]] (.seq (.r [.mv 20 (.t 6),
 .call 21 true [] (.c (.clo iParseNum [])) [(.t 20), (.c (.d (.i .i64 9999)))],
 .mv 19 (.t 21),
 .ext 22 (.t 19) 0,
 .ext 23 (.t 19) 1,
 .mv 8 (.t 22),
 .kill [6, 19, 20, 21, 22],
 .mv 9 (.t 23),
 .keep [9, 8, 1]])
 (.seq (.seq (.r [.mv 24 (.t 9),
 .not 25 (.t 24),
 .mv 26 (.t 25),
 .gd 26 false (some 27) (.mv 27 (.t 8)),
 .gd 26 false (some 28) (.bin 28 .lss .num (.t 27) (.c (.d (.i .i64 1)))),
 .pick 29 (.t 26) (.c (.d (.b true))) (.t 28),
 .keep [29, 8, 1]])
 (.cond (.t 29)
 (.pre [.keep [], .drop [65]] (.seq (.r [.mv 2 (.c (.d (.i .i64 0))),
 .mv 3 (.c (.d (.b false))),
 .mv 4 (.c (.d (.b false)))])
 (.ret)))
 (.pre [.kill [29]] (.skip))))
 (.r [.mv 30 (.t 8),
 .mv 5 (.t 30),
 .kill [8, 30]]))))
 (.pre [.kill [6, 18]] (.skip)))))
 (.seq (.r [.fa 32 (.t 1) 2,
 .ld 33 1 false (.t 32),
 .call 34 true [] (.c (.clo iHeadOf [])) [(.t 33), (.c (.d (.s [115, 99, 111, 112, 101])))],
 .mv 31 (.t 34),
 .ext 35 (.t 31) 0,
 .ext 36 (.t 31) 1,
 .kill [1, 31, 32, 33, 34],
 .mv 10 (.t 35),
 .mv 11 (.t 36),
 .keep [11, 10, 5],
 .drop [65]])
 (.seq (.seq (.r [.mv 37 (.t 11),
 .mv 38 (.t 37),
 .gd 38 true (some 39) (.mv 39 (.t 10)),
 .gd 38 true (some 40) (.bin 40 .neq .num (.t 39) (.c (.d (.s [115, 104, 97, 114, 101, 100])))),
 .pick 41 (.t 38) (.t 40) (.c (.d (.b false))),
 .kill [11, 37, 38, 39, 40],
 .mv 42 (.t 41),
 .gd 42 true (some 43) (.mv 43 (.t 10)),
 .gd 42 true (some 44) (.bin 44 .neq .num (.t 43) (.c (.d (.s [101, 120, 99, 108, 117, 115, 105, 118, 101])))),
 .pick 45 (.t 42) (.t 44) (.c (.d (.b false))),
 .keep [45, 10, 5]])
 (.cond (.t 45)
 (.pre [.keep []] (.seq (.r [.mv 2 (.c (.d (.i .i64 0))),
 .mv 3 (.c (.d (.b false))),
 .mv 4 (.c (.d (.b false)))])
 (.ret)))
 (.pre [.kill [45]] (.skip))))
 (.seq (.r [.mv 46 (.t 5),
 .mv 47 (.t 10),
 .bin 48 .eql .num (.t 47) (.c (.d (.s [115, 104, 97, 114, 101, 100]))),
 .mv 2 (.t 46),
 .mv 3 (.t 48),
 .kill [5, 10, 46, 47, 48],
 .mv 4 (.c (.d (.b true))),
 .keep [4, 3, 2]])
 (.ret))))))⟩
def iAddLock_m : Fn := ⟨2, [.t 4, .t 5], false,
 .seq (.r [.bx 3 TLock true (.t 1),
 .mv 4 (.c (.nil TLock)),
 .opn 4 4 false,
 .mv 5 (.c (.d (.b false))),
 .keep [3, 0],
 .drop [68]])
 (.seq (.post (.r [.an [74] [] [] [] (.mv 7 (.t 0)),
 .an [74] [] [72] [] (.app 8 TLock true 48 (.c (.nil TLock)) (.t 7)),
 .an [72] [] [] [] (.ld 9 5 true (.t 3)),
 .an [72] [] [74] [] (.bs 10 TLock true 1 [.d (.i .i64 0), .nil .str, .d (.b false), .d (.b false), .d (.i .i64 0)] [(0, (.t 9))]),
 .an [] [] [72, 75] [74] (.app 11 TLock true 48 (.t 8) (.t 10)),
 .an [] [] [13064] [] (.call 12 false [] (.c (.clo icopyLocks [])) [(.t 11)]),
 .mv 6 (.t 12)]) [.keep [6, 0], .drop [67, 72, 74, 75]])
 (.seq (.seq (.r [.mv 13 (.t 6),
 .call 14 true [] (.c (.clo iLocksOk [])) [(.t 13)],
 .not 15 (.t 14),
 .kill [13, 14]])
 (.cond (.t 15)
 (.pre [.keep [0], .drop [13064]] (.seq (.r [.mv 16 (.t 0),
 .call 17 false [] (.c (.clo icopyLocks [])) [(.t 16)],
 .mv 4 (.t 17),
 .ren 18064 68,
 .mv 5 (.c (.d (.b false))),
 .keep [5, 4],
 .drop [18064]])
 (.ret)))
 (.pre [.keep [6]] (.skip))))
 (.seq (.r [.mv 18 (.t 6),
 .mv 4 (.t 18),
 .ren 13064 68,
 .mv 5 (.c (.d (.b true))),
 .kill [6, 18],
 .drop [13064]])
 (.ret))))⟩
/-- live: [0, 1, 4]; objects: [0] -/
def iSrv_useToken_l0 : C :=
 .seq (.seq (.r [.mv 5 (.t 4),
 .mv 6 (.t 0),
 .nchk 7 (.t 6),
 .fa 8 (.t 7) 5,
 .ld 9 1 false (.t 8),
 .len 10 (.t 9),
 .bin 11 .lss .num (.t 5) (.t 10),
 .kill [5, 6, 7, 8, 9, 10],
 .mv 12 (.t 11),
 .gd 12 true (some 13) (.mv 13 (.t 0)),
 .gd 12 true (some 14) (.nchk 14 (.t 13)),
 .gd 12 true (some 15) (.fa 15 (.t 14) 5),
 .gd 12 true (some 16) (.ld 16 1 false (.t 15)),
 .gd 12 true (some 17) (.mv 17 (.t 4)),
 .gd 12 true (some 18) (.ia 18 1 (.t 16) (.t 17)),
 .kill [11, 13, 14, 15, 16, 17],
 .gd 12 true (some 19) (.ld 19 1 false (.t 18)),
 .gd 12 true (some 20) (.mv 20 (.t 1)),
 .gd 12 true (some 21) (.bin 21 .lss .num (.t 19) (.t 20)),
 .pick 22 (.t 12) (.t 21) (.c (.d (.b false))),
 .keep [22, 4, 1, 0]])
 (.cond (.t 22)
 (.pre [.kill [22]] (.skip))
 (.pre [.kill [22]] (.ex 0))))
 (.blk 1 (.r [.mv 23 (.t 4),
 .bin 24 .add .num (.t 23) (.c (.d (.i .i64 1))),
 .mv 4 (.t 24),
 .kill [23, 24]]))
def iSrv_useToken_m : Fn := ⟨2, [], false,
 .seq (.r [.mv 4 (.c (.d (.i .i64 0)))])
 (.seq (.blk 0 (.pre [.keep [4, 1, 0]] (.loop iSrv_useToken_l0)))
 (.post (.r [.an [98, 99, 106, 33064] [] [] [] (.mv 25 (.t 0)),
 .an [98] [] [] [] (.mv 26 (.t 0)),
 .an [98] [] [] [] (.nchk 27 (.t 26)),
 .an [98] [] [] [] (.fa 28 (.t 27) 5),
 .an [98] [] [] [] (.ld 29 1 false (.t 28)),
 .an [98] [] [] [] (.mv 30 (.t 4)),
 .an [98] [] [] [] (.slc 31 1 (.t 29) none (some (.t 30))),
 .an [98] [] [33064] [] (.call 32 false [] (.c (.clo icopyInts [])) [(.t 31)]),
 .an [33064] [] [] [] (.mv 33 (.t 1)),
 .an [33064] [] [98] [] (.bs 34 (.int .i64) false 1 [.d (.i .i64 0)] [(0, (.t 33))]),
 .an [] [] [99, 33064] [] (.app 35 (.int .i64) false 8 (.t 32) (.t 34)),
 .an [98, 99, 33064] [] [] [] (.mv 36 (.t 0)),
 .an [98, 99, 33064] [] [] [] (.nchk 37 (.t 36)),
 .an [98, 99, 33064] [] [] [] (.fa 38 (.t 37) 5),
 .an [98, 99, 33064] [] [] [] (.ld 39 1 false (.t 38)),
 .an [98, 99, 33064] [] [] [] (.mv 40 (.t 4)),
 .an [98, 99, 33064] [] [] [] (.slc 41 1 (.t 39) (some (.t 40)) none),
 .an [] [] [99, 106] [] (.app 42 (.int .i64) false 8 (.t 35) (.t 41)),
 .nchk 43 (.t 25),
 .fa 44 (.t 43) 5,
 .an [] [] [106] [0] (.st 1 (.t 44) (.t 42))]) [.keep [], .drop [98, 99, 106, 33064]]))⟩
def iParseNum_m : Fn := ⟨2, [.t 4, .t 5], false,
 .seq (.r [.mv 4 (.c (.d (.i .i64 0))),
 .mv 5 (.c (.d (.b false))),
 .kill [4, 5]])
 (.seq (.r [.mv 9 (.t 0),
 .call 10 true [] (.c (.clo x_strconv_Atoi [])) [(.t 9)],
 .mv 8 (.t 10),
 .ext 11 (.t 8) 0,
 .ext 12 (.t 8) 1,
 .mv 6 (.t 11),
 .mv 7 (.t 12),
 .keep [7, 6, 1, 0]])
 (.seq (.seq (.r [.mv 13 (.t 7),
 .bin 14 .neq .ifc (.t 13) (.c (.d (.e true))),
 .mv 15 (.t 14),
 .gd 15 false (some 16) (.mv 16 (.t 6)),
 .gd 15 false (some 17) (.bin 17 .lss .num (.t 16) (.c (.d (.i .i64 0)))),
 .pick 18 (.t 15) (.c (.d (.b true))) (.t 17),
 .kill [7, 13, 14, 15, 16, 17],
 .mv 19 (.t 18),
 .gd 19 false (some 20) (.mv 20 (.t 6)),
 .gd 19 false (some 21) (.mv 21 (.t 1)),
 .gd 19 false (some 22) (.bin 22 .gtr .num (.t 20) (.t 21)),
 .pick 23 (.t 19) (.c (.d (.b true))) (.t 22),
 .kill [1, 18, 19, 20, 21, 22],
 .mv 24 (.t 23),
 .gd 24 false (some 25) (.mv 25 (.t 0)),
 .gd 24 false (some 26) (.lns 26 (.t 25)),
 .gd 24 false (some 27) (.bin 27 .gtr .num (.t 26) (.c (.d (.i .i64 7)))),
 .pick 28 (.t 24) (.c (.d (.b true))) (.t 27),
 .kill [23, 24, 25, 26, 27],
 .mv 29 (.t 28),
 .gd 29 false (some 30) (.mv 30 (.t 6)),
 .gd 29 false (some 31) (.call 31 true [] (.c (.clo iNumText [])) [(.t 30)]),
 .gd 29 false (some 32) (.mv 32 (.t 0)),
 .gd 29 false (some 33) (.bin 33 .neq .num (.t 31) (.t 32)),
 .kill [0, 28, 30, 31, 32],
 .pick 34 (.t 29) (.c (.d (.b true))) (.t 33),
 .keep [34, 6]])
 (.cond (.t 34)
 (.pre [.keep []] (.seq (.r [.mv 4 (.c (.d (.i .i64 0))),
 .mv 5 (.c (.d (.b false)))])
 (.ret)))
 (.pre [.kill [34]] (.skip))))
 (.seq (.r [.mv 35 (.t 6),
 .mv 4 (.t 35),
 .mv 5 (.c (.d (.b true))),
 .kill [6, 35]])
 (.ret))))⟩
/-- live: [0, 1, 8, 9, 10]; objects: [] -/
def iDropLock_l0 : C :=
 .seq (.r [.bin 11 .lss .num (.t 10) (.t 9)])
 (.seq (.cond (.t 11)
 (.pre [.kill [11]] (.skip))
 (.pre [.keep [0]] (.ex 0)))
 (.seq (.blk 1 (.seq (.r [.mv 12 (.t 10),
 .ia 13 5 (.t 8) (.t 10),
 .ld 14 5 true (.t 13),
 .al 7 TLock true,
 .mv 6 (.t 12),
 .st 5 (.t 7) (.t 14),
 .kill [12, 13, 14]])
 (.seq (.r [.fa 15 (.t 7) 0,
 .ld 16 1 false (.t 15),
 .mv 17 (.t 1),
 .bin 18 .eql .num (.t 16) (.t 17),
 .kill [7, 15, 16, 17],
 .drop [71]])
 (.cond (.t 18)
 (.pre [.keep [6, 0]] (.seq (.post (.r [.mv 19 (.t 0),
 .mv 20 (.t 6),
 .slc 21 5 (.t 19) none (some (.t 20)),
 .an [] [] [23064] [] (.call 22 false [] (.c (.clo icopyLocks [])) [(.t 21)]),
 .an [23064] [] [] [] (.mv 23 (.t 0)),
 .an [23064] [] [] [] (.mv 24 (.t 6)),
 .an [23064] [] [] [] (.bin 25 .add .num (.t 24) (.c (.d (.i .i64 1)))),
 .an [23064] [] [] [] (.slc 26 5 (.t 23) (some (.t 25)) none),
 .an [] [] [28064] [] (.call 27 false [] (.c (.clo icopyLocks [])) [(.t 26)]),
 .an [] [] [92, 23064] [28064] (.app 28 TLock false 48 (.t 22) (.t 27)),
 .mv 4 (.t 28),
 .mv 5 (.c (.d (.b true)))]) [.ren 92 68, .keep [5, 4], .drop [92, 23064, 28064]])
 (.ret)))
 (.pre [.kill [6, 18]] (.skip))))))
 (.r [.bin 29 .add .num (.t 10) (.c (.d (.i .i64 1))),
 .mv 10 (.t 29),
 .kill [29]])))
def iDropLock_m : Fn := ⟨2, [.t 4, .t 5], false,
 .seq (.r [.mv 4 (.c (.nil TLock)),
 .opn 4 4 false,
 .mv 5 (.c (.d (.b false))),
 .kill [4, 5],
 .drop [68]])
 (.seq (.seq (.r [.mv 8 (.t 0),
 .len 9 (.t 8),
 .mv 10 (.c (.d (.i .i64 0)))])
 (.blk 0 (.pre [.keep [10, 9, 8, 1, 0]] (.loop iDropLock_l0))))
 (.seq (.r [.mv 30 (.t 0),
 .call 31 false [] (.c (.clo icopyLocks [])) [(.t 30)],
 .mv 4 (.t 31),
 .ren 32064 68,
 .mv 5 (.c (.d (.b false))),
 .keep [5, 4],
 .drop [32064]])
 (.ret)))⟩
def iPutFile_m : Fn := ⟨4, [.t 8, .t 9], true,
 .seq (.r [.mv 8 (.c (.nil TRes)),
 .frz 8,
 .mv 9 (.c (.d (.i .i64 0))),
 .kill [8, 9]])
 (.seq (.r [.mv 13 (.t 0),
 .call 14 false [] (.c (.clo icopyTree [])) [(.t 13)],
 .mv 10 (.t 14),
 .kill [13, 14]])
 (.seq (.seq (.r [.mv 15 (.t 0),
 .mv 16 (.t 3),
 .mv 17 (.t 1),
 .bs 18 (.sl .str) true 1 [.nil .str] [(0, (.t 17))],
 .call 19 true [] (.c (.clo iopForm [])) [(.t 15), (.t 16), (.t 18)],
 .mv 11 (.t 19),
 .kill [15, 16, 17, 18, 19],
 .drop [82]])
 (.seq (.r [.mv 20 (.t 11),
 .bin 21 .neq .num (.t 20) (.c (.d (.i .i64 0))),
 .kill [20]])
 (.cond (.t 21)
 (.pre [.keep [11, 10]] (.seq (.r [.mv 22 (.t 10),
 .mv 23 (.t 11),
 .mv 8 (.t 22),
 .frz 8,
 .mv 9 (.t 23),
 .keep [9, 8],
 .drop [15064]])
 (.ret)))
 (.pre [.kill [11, 21]] (.skip)))))
 (.seq (.r [.mv 24 (.t 0),
 .mv 25 (.t 1),
 .call 26 true [] (.c (.clo iFindRes [])) [(.t 24), (.t 25)],
 .mv 12 (.t 26),
 .kill [24, 25, 26]])
 (.seq (.blk 0 (.seq (.r [.mv 28 (.t 0),
 .mv 29 (.t 1),
 .call 30 true [] (.c (.clo iIsColl [])) [(.t 28), (.t 29)],
 .mv 27 (.t 30),
 .kill [28, 29, 30]])
 (.cond (.t 27)
 (.pre [.keep [10]] (.seq (.r [.mv 31 (.t 10),
 .mv 8 (.t 31),
 .frz 8,
 .mv 9 (.c (.d (.i .i64 405))),
 .kill [10, 31],
 .drop [15064]])
 (.ret)))
 (.pre [.kill [27]] (.seq (.r [.mv 33 (.t 0),
 .mv 34 (.t 1),
 .call 35 true [] (.c (.clo iAbove [])) [(.t 34)],
 .call 36 true [] (.c (.clo iIsColl [])) [(.t 33), (.t 35)],
 .not 37 (.t 36),
 .mv 32 (.t 37),
 .kill [33, 34, 35, 36, 37]])
 (.cond (.t 32)
 (.pre [.keep [10]] (.seq (.r [.mv 38 (.t 10),
 .mv 8 (.t 38),
 .frz 8,
 .mv 9 (.c (.d (.i .i64 409))),
 .kill [10, 38],
 .drop [15064]])
 (.ret)))
 (.pre [.kill [32]] (.seq (.r [.mv 40 (.t 2),
 .lns 41 (.t 40),
 .bin 42 .gtr .num (.t 41) (.c (.d (.i .i64 200))),
 .mv 39 (.t 42),
 .kill [40, 41, 42]])
 (.cond (.t 39)
 (.pre [.keep [10]] (.seq (.r [.mv 43 (.t 10),
 .mv 8 (.t 43),
 .frz 8,
 .mv 9 (.c (.d (.i .i64 413))),
 .kill [10, 43],
 .drop [15064]])
 (.ret)))
 (.pre [.kill [39]] (.seq (.r [.mv 45 (.t 12),
 .bin 46 .geq .num (.t 45) (.c (.d (.i .i64 0))),
 .mv 44 (.t 46),
 .kill [45, 46]])
 (.cond (.t 44)
 (.pre [.kill [0, 1, 44]] (.seq (.r [.mv 47 (.t 10),
 .mv 48 (.t 12),
 .mv 49 (.t 10),
 .mv 50 (.t 12),
 .mv 51 (.t 2),
 .mv 52 (.t 3),
 .ia 53 5 (.t 47) (.t 48),
 .kill [2, 3, 12, 47, 48],
 .fa 54 (.t 53) 2,
 .st 1 (.t 54) (.t 51),
 .ia 55 5 (.t 49) (.t 50),
 .kill [49, 50, 51, 53, 54],
 .fa 56 (.t 55) 3,
 .st 1 (.t 56) (.t 52),
 .keep [10]])
 (.seq (.r [.mv 57 (.t 10),
 .mv 8 (.t 57),
 .frz 8,
 .mv 9 (.c (.d (.i .i64 204))),
 .kill [10, 57],
 .drop [15064]])
 (.ret))))
 (.pre [.kill [12, 44]] (.seq (.r [.mv 59 (.t 0),
 .len 60 (.t 59),
 .bin 61 .geq .num (.t 60) (.c (.d (.i .i64 12))),
 .mv 58 (.t 61),
 .kill [0, 59, 60, 61]])
 (.cond (.t 58)
 (.pre [.keep [10]] (.seq (.r [.mv 62 (.t 10),
 .mv 8 (.t 62),
 .frz 8,
 .mv 9 (.c (.d (.i .i64 507))),
 .kill [10, 62],
 .drop [15064]])
 (.ret)))
 (.pre [.kill [58]] (.skip)))))))))))))))))
 (.seq (.r [.mv 63 (.t 10),
 .frz 63,
 .mv 64 (.t 1),
 .call 65 true [] (.c (.clo icopyPath [])) [(.t 64)],
 .mv 66 (.t 2),
 .mv 67 (.t 3),
 .kill [1, 2, 3, 10, 64],
 .bd 68 [.nil .str, .d (.b false), .d (.s []), .d (.i .i64 0), .nil TProp] [(0, 1, (.t 65)), (2, 1, (.t 66)), (3, 1, (.t 67))],
 .call 69 true [] (.c (.clo iwithRes [])) [(.t 63), (.t 68)],
 .kill [63, 65, 66, 67, 68],
 .mv 8 (.t 69),
 .frz 8,
 .mv 9 (.c (.d (.i .i64 201))),
 .keep [9, 8],
 .drop [15064]])
 (.ret))))))⟩
def iMakeColl_m : Fn := ⟨3, [.t 6, .t 7], true,
 .seq (.r [.mv 6 (.c (.nil TRes)),
 .frz 6,
 .mv 7 (.c (.d (.i .i64 0))),
 .kill [6, 7]])
 (.seq (.r [.mv 10 (.t 0),
 .call 11 true [] (.c (.clo icopyTree [])) [(.t 10)],
 .mv 8 (.t 11),
 .kill [10, 11]])
 (.seq (.seq (.r [.mv 12 (.t 0),
 .mv 13 (.t 2),
 .mv 14 (.t 1),
 .bs 15 (.sl .str) true 1 [.nil .str] [(0, (.t 14))],
 .call 16 true [] (.c (.clo iopForm [])) [(.t 12), (.t 13), (.t 15)],
 .mv 9 (.t 16),
 .kill [12, 13, 14, 15, 16],
 .drop [79]])
 (.seq (.r [.mv 17 (.t 9),
 .bin 18 .neq .num (.t 17) (.c (.d (.i .i64 0))),
 .kill [17]])
 (.cond (.t 18)
 (.pre [.keep [9, 8]] (.seq (.r [.mv 19 (.t 8),
 .mv 20 (.t 9),
 .mv 6 (.t 19),
 .frz 6,
 .mv 7 (.t 20),
 .keep [7, 6]])
 (.ret)))
 (.pre [.kill [9, 18]] (.skip)))))
 (.seq (.blk 0 (.seq (.r [.mv 22 (.t 1),
 .len 23 (.t 22),
 .bin 24 .eql .num (.t 23) (.c (.d (.i .i64 0))),
 .mv 25 (.t 24),
 .gd 25 false (some 26) (.mv 26 (.t 0)),
 .gd 25 false (some 27) (.mv 27 (.t 1)),
 .gd 25 false (some 28) (.call 28 true [] (.c (.clo iFindRes [])) [(.t 26), (.t 27)]),
 .kill [22, 23, 24, 26, 27],
 .gd 25 false (some 29) (.bin 29 .geq .num (.t 28) (.c (.d (.i .i64 0)))),
 .pick 30 (.t 25) (.c (.d (.b true))) (.t 29),
 .mv 21 (.t 30),
 .keep [21, 8, 2, 1, 0]])
 (.cond (.t 21)
 (.pre [.keep [8]] (.seq (.r [.mv 31 (.t 8),
 .mv 6 (.t 31),
 .frz 6,
 .mv 7 (.c (.d (.i .i64 405))),
 .kill [8, 31]])
 (.ret)))
 (.pre [.kill [21]] (.seq (.r [.mv 33 (.t 0),
 .mv 34 (.t 1),
 .call 35 true [] (.c (.clo iAbove [])) [(.t 34)],
 .call 36 true [] (.c (.clo iIsColl [])) [(.t 33), (.t 35)],
 .not 37 (.t 36),
 .mv 32 (.t 37),
 .kill [33, 34, 35, 36, 37]])
 (.cond (.t 32)
 (.pre [.keep [8]] (.seq (.r [.mv 38 (.t 8),
 .mv 6 (.t 38),
 .frz 6,
 .mv 7 (.c (.d (.i .i64 409))),
 .kill [8, 38]])
 (.ret)))
 (.pre [.kill [32]] (.seq (.r [.mv 40 (.t 0),
 .len 41 (.t 40),
 .bin 42 .geq .num (.t 41) (.c (.d (.i .i64 12))),
 .mv 39 (.t 42),
 .kill [0, 40, 41, 42]])
 (.cond (.t 39)
 (.pre [.keep [8]] (.seq (.r [.mv 43 (.t 8),
 .mv 6 (.t 43),
 .frz 6,
 .mv 7 (.c (.d (.i .i64 507))),
 .kill [8, 43]])
 (.ret)))
 (.pre [.kill [39]] (.skip)))))))))))
 (.seq (.r [.mv 44 (.t 8),
 .mv 45 (.t 1),
 .call 46 true [] (.c (.clo icopyPath [])) [(.t 45)],
 .mv 47 (.t 2),
 .bd 48 [.nil .str, .d (.b false), .d (.s []), .d (.i .i64 0), .nil TProp] [(0, 1, (.t 46)), (1, 1, (.c (.d (.b true)))), (3, 1, (.t 47))],
 .kill [1, 2, 8, 45, 46, 47],
 .call 49 true [] (.c (.clo iwithRes [])) [(.t 44), (.t 48)],
 .mv 6 (.t 49),
 .frz 6,
 .mv 7 (.c (.d (.i .i64 201))),
 .keep [7, 6]])
 (.ret)))))⟩
def iRemove_m : Fn := ⟨2, [.t 4, .t 5], false,
 .seq (.r [.mv 4 (.c (.nil TRes)),
 .opn 4 4 false,
 .mv 5 (.c (.d (.i .i64 0))),
 .kill [4, 5],
 .drop [68]])
 (.seq (.seq (.r [.mv 7 (.t 0),
 .mv 8 (.t 1),
 .bs 9 (.sl .str) true 1 [.nil .str] [(0, (.t 8))],
 .call 10 true [] (.c (.clo iopForm [])) [(.t 7), (.c (.d (.i .i64 0))), (.t 9)],
 .mv 6 (.t 10),
 .keep [6, 1, 0],
 .drop [73]])
 (.seq (.r [.mv 11 (.t 6),
 .bin 12 .neq .num (.t 11) (.c (.d (.i .i64 0))),
 .kill [11]])
 (.cond (.t 12)
 (.pre [.kill [1, 12]] (.seq (.r [.mv 13 (.t 0),
 .call 14 false [] (.c (.clo icopyTree [])) [(.t 13)],
 .mv 15 (.t 6),
 .mv 4 (.t 14),
 .ren 15064 68,
 .mv 5 (.t 15),
 .keep [5, 4],
 .drop [15064]])
 (.ret)))
 (.pre [.kill [6, 12]] (.skip)))))
 (.seq (.blk 0 (.seq (.r [.mv 17 (.t 1),
 .len 18 (.t 17),
 .bin 19 .eql .num (.t 18) (.c (.d (.i .i64 0))),
 .mv 16 (.t 19),
 .kill [17, 18, 19]])
 (.cond (.t 16)
 (.pre [.keep [0]] (.seq (.r [.mv 20 (.t 0),
 .call 21 false [] (.c (.clo icopyTree [])) [(.t 20)],
 .mv 4 (.t 21),
 .ren 22064 68,
 .mv 5 (.c (.d (.i .i64 403))),
 .keep [5, 4],
 .drop [22064]])
 (.ret)))
 (.pre [.kill [16]] (.seq (.r [.mv 23 (.t 0),
 .mv 24 (.t 1),
 .call 25 true [] (.c (.clo iFindRes [])) [(.t 23), (.t 24)],
 .bin 26 .lss .num (.t 25) (.c (.d (.i .i64 0))),
 .mv 22 (.t 26),
 .keep [22, 1, 0]])
 (.cond (.t 22)
 (.pre [.keep [0]] (.seq (.r [.mv 27 (.t 0),
 .call 28 false [] (.c (.clo icopyTree [])) [(.t 27)],
 .mv 4 (.t 28),
 .ren 29064 68,
 .mv 5 (.c (.d (.i .i64 404))),
 .keep [5, 4],
 .drop [29064]])
 (.ret)))
 (.pre [.kill [22]] (.skip))))))))
 (.seq (.r [.mv 29 (.t 0),
 .mv 30 (.t 1),
 .call 31 false [] (.c (.clo iwithout [])) [(.t 29), (.t 30)],
 .mv 4 (.t 31),
 .ren 32064 68,
 .kill [0, 1, 29, 30, 31],
 .mv 5 (.c (.d (.i .i64 204))),
 .keep [5, 4],
 .drop [32064]])
 (.ret))))⟩
def iMoveTree_m : Fn := ⟨5, [.t 10, .t 11], true,
 .seq (.r [.mv 10 (.c (.nil TRes)),
 .frz 10,
 .mv 11 (.c (.d (.i .i64 0))),
 .kill [10, 11]])
 (.seq (.seq (.r [.mv 15 (.t 0),
 .mv 16 (.t 4),
 .mv 17 (.t 1),
 .mv 18 (.t 2),
 .bs 19 (.sl .str) true 2 [.nil .str] [(0, (.t 17)), (1, (.t 18))],
 .call 20 true [] (.c (.clo iopForm [])) [(.t 15), (.t 16), (.t 19)],
 .kill [15, 16, 17, 18, 19],
 .mv 12 (.t 20),
 .kill [15, 16, 17, 18, 19, 20],
 .drop [83]])
 (.seq (.r [.mv 21 (.t 12),
 .bin 22 .neq .num (.t 21) (.c (.d (.i .i64 0))),
 .kill [21]])
 (.cond (.t 22)
 (.pre [.keep [12, 0]] (.seq (.r [.mv 23 (.t 0),
 .call 24 true [] (.c (.clo icopyTree [])) [(.t 23)],
 .mv 25 (.t 12),
 .mv 10 (.t 24),
 .frz 10,
 .mv 11 (.t 25),
 .keep [11, 10]])
 (.ret)))
 (.pre [.kill [12, 22]] (.skip)))))
 (.seq (.r [.mv 27 (.t 0),
 .mv 28 (.t 1),
 .mv 29 (.t 2),
 .mv 30 (.t 3),
 .mv 31 (.t 4),
 .call 32 true [] (.c (.clo icopied [])) [(.t 27), (.t 28), (.t 29), (.t 30), (.t 31)],
 .kill [2, 3, 4, 27, 28, 29, 30, 31],
 .mv 26 (.t 32),
 .ext 33 (.t 26) 0,
 .ext 34 (.t 26) 1,
 .mv 13 (.t 33),
 .frz 13,
 .mv 14 (.t 34),
 .keep [14, 13, 1, 0]])
 (.seq (.seq (.r [.mv 35 (.t 14),
 .bin 36 .geq .num (.t 35) (.c (.d (.i .i64 400))),
 .kill [35]])
 (.cond (.t 36)
 (.pre [.keep [14, 0]] (.seq (.r [.mv 37 (.t 0),
 .call 38 true [] (.c (.clo icopyTree [])) [(.t 37)],
 .mv 39 (.t 14),
 .mv 10 (.t 38),
 .frz 10,
 .mv 11 (.t 39),
 .keep [11, 10]])
 (.ret)))
 (.pre [.kill [36]] (.skip))))
 (.seq (.seq (.r [.mv 40 (.t 13),
 .mv 41 (.t 1),
 .call 42 true [] (.c (.clo iwithout [])) [(.t 40), (.t 41)],
 .mv 13 (.t 42),
 .frz 13,
 .keep [14, 13, 0]])
 (.seq (.r [.mv 43 (.t 13),
 .len 44 (.t 43),
 .bin 45 .gtr .num (.t 44) (.c (.d (.i .i64 12))),
 .kill [43, 44]])
 (.cond (.t 45)
 (.pre [.keep [0]] (.seq (.r [.mv 46 (.t 0),
 .call 47 true [] (.c (.clo icopyTree [])) [(.t 46)],
 .mv 10 (.t 47),
 .frz 10,
 .mv 11 (.c (.d (.i .i64 507))),
 .keep [11, 10]])
 (.ret)))
 (.pre [.kill [0, 45]] (.skip)))))
 (.seq (.r [.mv 48 (.t 13),
 .mv 49 (.t 14),
 .mv 10 (.t 48),
 .frz 10,
 .mv 11 (.t 49),
 .keep [11, 10]])
 (.ret))))))⟩
def iCopyTree_m : Fn := ⟨5, [.t 10, .t 11], true,
 .seq (.r [.mv 10 (.c (.nil TRes)),
 .frz 10,
 .mv 11 (.c (.d (.i .i64 0))),
 .kill [10, 11]])
 (.seq (.seq (.r [.mv 15 (.t 0),
 .mv 16 (.t 4),
 .mv 17 (.t 1),
 .mv 18 (.t 2),
 .bs 19 (.sl .str) true 2 [.nil .str] [(0, (.t 17)), (1, (.t 18))],
 .call 20 true [] (.c (.clo iopForm [])) [(.t 15), (.t 16), (.t 19)],
 .kill [15, 16, 17, 18, 19],
 .mv 12 (.t 20),
 .kill [15, 16, 17, 18, 19, 20],
 .drop [83]])
 (.seq (.r [.mv 21 (.t 12),
 .bin 22 .neq .num (.t 21) (.c (.d (.i .i64 0))),
 .kill [21]])
 (.cond (.t 22)
 (.pre [.keep [12, 0]] (.seq (.r [.mv 23 (.t 0),
 .call 24 true [] (.c (.clo icopyTree [])) [(.t 23)],
 .mv 25 (.t 12),
 .mv 10 (.t 24),
 .frz 10,
 .mv 11 (.t 25),
 .keep [11, 10]])
 (.ret)))
 (.pre [.kill [12, 22]] (.skip)))))
 (.seq (.r [.mv 27 (.t 0),
 .mv 28 (.t 1),
 .mv 29 (.t 2),
 .mv 30 (.t 3),
 .mv 31 (.t 4),
 .call 32 true [] (.c (.clo icopied [])) [(.t 27), (.t 28), (.t 29), (.t 30), (.t 31)],
 .kill [1, 2, 3, 4, 27, 28, 29, 30, 31],
 .mv 26 (.t 32),
 .ext 33 (.t 26) 0,
 .ext 34 (.t 26) 1,
 .mv 13 (.t 33),
 .mv 14 (.t 34),
 .keep [14, 13, 0]])
 (.seq (.seq (.r [.mv 35 (.t 14),
 .bin 36 .lss .num (.t 35) (.c (.d (.i .i64 400))),
 .mv 37 (.t 36),
 .gd 37 true (some 38) (.mv 38 (.t 13)),
 .gd 37 true (some 39) (.len 39 (.t 38)),
 .gd 37 true (some 40) (.bin 40 .gtr .num (.t 39) (.c (.d (.i .i64 12)))),
 .pick 41 (.t 37) (.t 40) (.c (.d (.b false))),
 .keep [41, 14, 13, 0]])
 (.cond (.t 41)
 (.pre [.kill [14, 41]] (.r [.mv 14 (.c (.d (.i .i64 507)))]))
 (.pre [.kill [41]] (.skip))))
 (.seq (.seq (.r [.mv 42 (.t 14),
 .bin 43 .geq .num (.t 42) (.c (.d (.i .i64 400))),
 .kill [42]])
 (.cond (.t 43)
 (.pre [.kill [13, 43]] (.seq (.r [.mv 44 (.t 0),
 .call 45 true [] (.c (.clo icopyTree [])) [(.t 44)],
 .mv 46 (.t 14),
 .mv 10 (.t 45),
 .frz 10,
 .mv 11 (.t 46),
 .keep [11, 10]])
 (.ret)))
 (.pre [.kill [0, 43]] (.skip))))
 (.seq (.r [.mv 47 (.t 13),
 .mv 48 (.t 14),
 .mv 10 (.t 47),
 .frz 10,
 .mv 11 (.t 48),
 .keep [11, 10]])
 (.ret))))))⟩
/-- live: [0, 3, 6, 7, 18, 19, 20]; objects: [67, 70, 71, 19064] -/
def iSrv_copyAlone_l0 : C :=
 .seq (.r [.bin 21 .lss .num (.t 20) (.t 19)])
 (.seq (.cond (.t 21)
 (.pre [.kill [21]] (.skip))
 (.pre [.kill [18, 19, 20, 21], .drop [19064]] (.ex 0)))
 (.seq (.blk 1 (.seq (.r [.ia 22 5 (.t 18) (.t 20),
 .ldt 23 5 true (.t 22),
 .al 9 TRes false,
 .st 5 (.t 9) (.t 23),
 .kill [22, 23],
 .drop [24064, 24068]])
 (.seq (.r [.fa 24 (.t 9) 0,
 .ld 25 1 false (.t 24),
 .fa 26 (.t 3) 0,
 .ld 27 1 false (.t 26),
 .call 28 true [] (.c (.clo iUnder [])) [(.t 25), (.t 27)],
 .kill [24, 25, 26, 27]])
 (.cond (.t 28)
 (.pre [.kill [28]] (.r [.mv 29 (.t 7),
 .ldt 30 5 true (.t 9),
 .bs 31 TRes false 1 [.nil .str, .d (.b false), .d (.s []), .d (.i .i64 0), .nil TProp] [(0, (.t 30))],
 .app 32 TRes false 80 (.t 29) (.t 31),
 .kill [7, 9, 29, 30, 31],
 .mv 7 (.t 32),
 .ren 96 71,
 .kill [9, 29, 30, 31, 32],
 .drop [73, 95, 96, 31064, 31068]]))
 (.pre [.kill [28]] (.r [.mv 33 (.t 6),
 .ldt 34 5 true (.t 9),
 .bs 35 TRes false 1 [.nil .str, .d (.b false), .d (.s []), .d (.i .i64 0), .nil TProp] [(0, (.t 34))],
 .app 36 TRes false 80 (.t 33) (.t 35),
 .kill [6, 9, 33, 34, 35],
 .mv 6 (.t 36),
 .ren 100 70,
 .kill [9, 33, 34, 35, 36],
 .drop [73, 99, 100, 35064, 35068]]))))))
 (.r [.bin 37 .add .num (.t 20) (.c (.d (.i .i64 1))),
 .mv 20 (.t 37),
 .kill [37]])))
/-- live: [0, 10, 11, 61, 62, 63]; objects: [71] -/
def iSrv_copyAlone_l1 : C :=
 .seq (.r [.bin 64 .lss .num (.t 63) (.t 62)])
 (.seq (.cond (.t 64)
 (.pre [.kill [64]] (.skip))
 (.pre [.keep [11, 10, 0], .drop [71]] (.ex 2)))
 (.seq (.blk 3 (.seq (.r [.ia 65 5 (.t 61) (.t 63),
 .ldt 66 5 true (.t 65),
 .al 13 TRes false,
 .st 5 (.t 13) (.t 66),
 .kill [65, 66],
 .drop [67064, 67068]])
 (.r [.mv 67 (.t 10),
 .ld 68 5 true (.t 13),
 .call 69 true [] (.c (.clo iwithRes [])) [(.t 67), (.t 68)],
 .mv 10 (.t 69),
 .kill [13, 67, 68, 69],
 .drop [77]])))
 (.r [.bin 70 .add .num (.t 63) (.c (.d (.i .i64 1))),
 .mv 63 (.t 70),
 .kill [70]])))
def iSrv_copyAlone_m : Fn := ⟨2, [.t 4, .t 5], true,
 .seq (.r [.bx 3 TAsk true (.t 1),
 .mv 4 (.c (.nil TRes)),
 .frz 4,
 .mv 5 (.c (.d (.i .i64 0))),
 .keep [3, 0]])
 (.seq (.r [.mv 6 (.c (.nil TRes)),
 .opn 6 6 false,
 .mv 7 (.c (.nil TRes)),
 .opn 7 7 false])
 (.seq (.seq (.r [.mv 14 (.t 0),
 .nchk 15 (.t 14),
 .fa 16 (.t 15) 0,
 .ld 17 1 false (.t 16),
 .call 18 false [] (.c (.clo icopyTree [])) [(.t 17)],
 .len 19 (.t 18),
 .mv 20 (.c (.d (.i .i64 0))),
 .kill [14, 15, 16, 17]])
 (.blk 0 (.pre [.keep [20, 19, 18, 7, 6, 3, 0]] (.loop iSrv_copyAlone_l0))))
 (.seq (.post (.r [.mv 39 (.t 6),
 .fa 40 (.t 3) 0,
 .ld 41 1 false (.t 40),
 .fa 42 (.t 3) 1,
 .ld 43 1 false (.t 42),
 .fa 44 (.t 3) 3,
 .ld 45 1 false (.t 44),
 .mv 46 (.t 0),
 .nchk 47 (.t 46),
 .fa 48 (.t 47) 3,
 .ld 49 1 false (.t 48),
 .call 50 true [] (.c (.clo iCopyTree [])) [(.t 39), (.t 41), (.t 43), (.t 45), (.t 49)],
 .mv 38 (.t 50),
 .ext 51 (.t 38) 0,
 .ext 52 (.t 38) 1,
 .mv 10 (.t 51),
 .mv 11 (.t 52)]) [.keep [11, 10, 7, 0], .drop [67, 70]])
 (.seq (.seq (.r [.mv 53 (.t 11),
 .bin 54 .geq .num (.t 53) (.c (.d (.i .i64 400))),
 .kill [53]])
 (.cond (.t 54)
 (.pre [.keep [11, 0], .drop [71]] (.seq (.r [.mv 55 (.t 0),
 .nchk 56 (.t 55),
 .fa 57 (.t 56) 0,
 .ld 58 1 false (.t 57),
 .call 59 true [] (.c (.clo icopyTree [])) [(.t 58)],
 .kill [0, 55, 56, 57, 58],
 .mv 60 (.t 11),
 .mv 4 (.t 59),
 .frz 4,
 .mv 5 (.t 60),
 .keep [5, 4]])
 (.ret)))
 (.pre [.kill [54]] (.skip))))
 (.seq (.seq (.r [.mv 61 (.t 7),
 .len 62 (.t 61),
 .mv 63 (.c (.d (.i .i64 0))),
 .kill [7]])
 (.blk 2 (.pre [.keep [63, 62, 61, 11, 10, 0]] (.loop iSrv_copyAlone_l1))))
 (.seq (.seq (.r [.mv 71 (.t 10),
 .len 72 (.t 71),
 .bin 73 .gtr .num (.t 72) (.c (.d (.i .i64 12))),
 .kill [71, 72]])
 (.cond (.t 73)
 (.pre [.keep [0]] (.seq (.r [.mv 74 (.t 0),
 .nchk 75 (.t 74),
 .fa 76 (.t 75) 0,
 .ld 77 1 false (.t 76),
 .call 78 true [] (.c (.clo icopyTree [])) [(.t 77)],
 .kill [0, 74, 75, 76, 77],
 .mv 4 (.t 78),
 .frz 4,
 .mv 5 (.c (.d (.i .i64 507))),
 .keep [5, 4]])
 (.ret)))
 (.pre [.kill [0, 73]] (.skip))))
 (.seq (.r [.mv 79 (.t 10),
 .mv 80 (.t 11),
 .mv 4 (.t 79),
 .frz 4,
 .mv 5 (.t 80),
 .keep [5, 4]])
 (.ret))))))))⟩
def iSrv_dropUnder_m : Fn := ⟨3, [], false,
 .seq (.r [.bx 4 (.sl .str) true (.t 1),
 .bx 5 .bool false (.t 2),
 .kill [1, 2]])
 (.r [.mv 6 (.t 0),
 .mv 7 (.t 0),
 .nchk 8 (.t 7),
 .fa 9 (.t 8) 1,
 .ld 10 1 false (.t 9),
 .mkf 11 iSrv_dropUnder_1 [(.t 4), (.t 5)],
 .kill [0, 4, 5, 7, 8, 9],
 .call 12 false [] (.c (.clo ikeepLocks [])) [(.t 10), (.t 11)],
 .nchk 13 (.t 6),
 .fa 14 (.t 13) 1,
 .st 1 (.t 14) (.t 12),
 .keep [],
 .drop [68, 69, 13064]])⟩
def iTagText_m : Fn := ⟨1, [.t 2], false,
 .seq (.r [.mv 2 (.c (.d (.s []))),
 .kill [2]])
 (.seq (.r [.mv 3 (.t 0),
 .call 4 true [] (.c (.clo iNumText [])) [(.t 3)],
 .bin 5 .add .num (.c (.d (.s [34, 118]))) (.t 4),
 .bin 6 .add .num (.t 5) (.c (.d (.s [34]))),
 .mv 2 (.t 6),
 .keep [2]])
 (.ret))⟩
def iNameOk_m : Fn := ⟨1, [.t 2], false,
 .seq (.r [.mv 2 (.c (.d (.b false))),
 .kill [2]])
 (.seq (.r [.mv 3 (.t 0),
 .lns 4 (.t 3),
 .call 5 true [] (.c (.clo iin [])) [(.t 4), (.c (.d (.i .i64 1))), (.c (.d (.i .i64 8)))],
 .mv 6 (.t 5),
 .gd 6 true (some 7) (.mv 7 (.t 0)),
 .gd 6 true (some 8) (.call 8 true [] (.c (.clo iPlain [])) [(.t 7)]),
 .pick 9 (.t 6) (.t 8) (.c (.d (.b false))),
 .kill [3, 4, 5, 6, 7, 8],
 .mv 10 (.t 9),
 .gd 10 true (some 11) (.mv 11 (.t 0)),
 .gd 10 true (some 12) (.call 12 true [] (.c (.clo x_strings_Contains [])) [(.t 11), (.c (.d (.s [47])))]),
 .gd 10 true (some 13) (.not 13 (.t 12)),
 .pick 14 (.t 10) (.t 13) (.c (.d (.b false))),
 .kill [9, 10, 11, 12, 13],
 .mv 15 (.t 14),
 .gd 15 true (some 16) (.mv 16 (.t 0)),
 .gd 15 true (some 17) (.bin 17 .neq .num (.t 16) (.c (.d (.s [46])))),
 .pick 18 (.t 15) (.t 17) (.c (.d (.b false))),
 .mv 19 (.t 18),
 .kill [14, 15, 16, 17, 18],
 .gd 19 true (some 20) (.mv 20 (.t 0)),
 .gd 19 true (some 21) (.bin 21 .neq .num (.t 20) (.c (.d (.s [46, 46])))),
 .pick 22 (.t 19) (.t 21) (.c (.d (.b false))),
 .mv 2 (.t 22),
 .keep [2]])
 (.ret))⟩
def ipropOk_m : Fn := ⟨1, [.t 2], false,
 .seq (.r [.bx 1 TProp false (.t 0),
 .mv 2 (.c (.d (.b false))),
 .keep [1]])
 (.seq (.r [.fa 3 (.t 1) 0,
 .ld 4 1 false (.t 3),
 .lns 5 (.t 4),
 .bin 6 .leq .num (.t 5) (.c (.d (.i .i64 20))),
 .mv 7 (.t 6),
 .gd 7 true (some 8) (.fa 8 (.t 1) 0),
 .gd 7 true (some 9) (.ld 9 1 false (.t 8)),
 .kill [3, 4, 5, 6, 8],
 .gd 7 true (some 10) (.call 10 true [] (.c (.clo iPlain [])) [(.t 9)]),
 .pick 11 (.t 7) (.t 10) (.c (.d (.b false))),
 .mv 12 (.t 11),
 .gd 12 true (some 13) (.fa 13 (.t 1) 1),
 .gd 12 true (some 14) (.ld 14 1 false (.t 13)),
 .kill [7, 9, 10, 11, 13],
 .gd 12 true (some 15) (.call 15 true [] (.c (.clo iSmallName [])) [(.t 14)]),
 .pick 16 (.t 12) (.t 15) (.c (.d (.b false))),
 .mv 17 (.t 16),
 .gd 17 true (some 18) (.fa 18 (.t 1) 2),
 .gd 17 true (some 19) (.ld 19 1 false (.t 18)),
 .kill [12, 14, 15, 16, 18],
 .gd 17 true (some 20) (.lns 20 (.t 19)),
 .gd 17 true (some 21) (.bin 21 .leq .num (.t 20) (.c (.d (.i .i64 20)))),
 .pick 22 (.t 17) (.t 21) (.c (.d (.b false))),
 .mv 23 (.t 22),
 .kill [17, 19, 20, 21, 22],
 .gd 23 true (some 24) (.fa 24 (.t 1) 2),
 .gd 23 true (some 25) (.ld 25 1 false (.t 24)),
 .gd 23 true (some 26) (.call 26 true [] (.c (.clo iPlain [])) [(.t 25)]),
 .pick 27 (.t 23) (.t 26) (.c (.d (.b false))),
 .kill [1, 23, 24, 25, 26],
 .mv 2 (.t 27),
 .keep [2],
 .drop [65]])
 (.ret))⟩
def ilessProp_m : Fn := ⟨2, [.t 4], false,
 .seq (.r [.bx 2 TProp false (.t 0),
 .bx 3 TProp false (.t 1),
 .mv 4 (.c (.d (.b false))),
 .keep [3, 2]])
 (.seq (.r [.fa 5 (.t 2) 0,
 .ld 6 1 false (.t 5),
 .fa 7 (.t 3) 0,
 .ld 8 1 false (.t 7),
 .bin 9 .lss .num (.t 6) (.t 8),
 .mv 10 (.t 9),
 .kill [5, 6, 7, 8, 9],
 .gd 10 false (some 11) (.fa 11 (.t 2) 0),
 .gd 10 false (some 12) (.ld 12 1 false (.t 11)),
 .gd 10 false (some 13) (.fa 13 (.t 3) 0),
 .gd 10 false (some 14) (.ld 14 1 false (.t 13)),
 .gd 10 false (some 15) (.bin 15 .eql .num (.t 12) (.t 14)),
 .gd 10 false (some 16) (.mv 16 (.t 15)),
 .kill [11, 12, 13, 14, 15],
 .gd 16 true (some 17) (.fa 17 (.t 2) 1),
 .gd 16 true (some 18) (.ld 18 1 false (.t 17)),
 .gd 16 true (some 19) (.fa 19 (.t 3) 1),
 .gd 16 true (some 20) (.ld 20 1 false (.t 19)),
 .gd 16 true (some 21) (.bin 21 .lss .num (.t 18) (.t 20)),
 .kill [2, 3, 17, 18, 19, 20],
 .gd 10 false (some 22) (.pick 22 (.t 16) (.t 21) (.c (.d (.b false)))),
 .pick 23 (.t 10) (.c (.d (.b true))) (.t 22),
 .mv 4 (.t 23),
 .keep [4],
 .drop [66, 67]])
 (.ret))⟩
def iUnder_m : Fn := ⟨2, [.t 4], false,
 .seq (.r [.mv 4 (.c (.d (.b false))),
 .kill [4]])
 (.seq (.r [.mv 5 (.t 0),
 .len 6 (.t 5),
 .mv 7 (.t 1),
 .len 8 (.t 7),
 .bin 9 .gtr .num (.t 6) (.t 8),
 .mv 10 (.t 9),
 .kill [5, 6, 7, 8, 9],
 .gd 10 true (some 11) (.mv 11 (.t 0)),
 .gd 10 true (some 12) (.mv 12 (.t 1)),
 .gd 10 true (some 13) (.len 13 (.t 12)),
 .gd 10 true (some 14) (.slc 14 1 (.t 11) none (some (.t 13))),
 .gd 10 true (some 15) (.mv 15 (.t 1)),
 .kill [0, 1, 11, 12, 13],
 .gd 10 true (some 16) (.call 16 true [] (.c (.clo iSamePath [])) [(.t 14), (.t 15)]),
 .pick 17 (.t 10) (.t 16) (.c (.d (.b false))),
 .mv 4 (.t 17),
 .keep [4]])
 (.ret))⟩
def iisPlain_m : Fn := ⟨1, [.t 2], false,
 .seq (.r [.mv 2 (.c (.d (.b false))),
 .kill [2]])
 (.seq (.r [.mv 3 (.t 0),
 .bin 4 .geq .num (.t 3) (.c (.d (.u 32))),
 .mv 5 (.t 4),
 .gd 5 true (some 6) (.mv 6 (.t 0)),
 .gd 5 true (some 7) (.bin 7 .leq .num (.t 6) (.c (.d (.u 126)))),
 .pick 8 (.t 5) (.t 7) (.c (.d (.b false))),
 .kill [0, 3, 4, 5, 6, 7],
 .mv 2 (.t 8),
 .keep [2]])
 (.ret))⟩
def iisSmall_m : Fn := ⟨1, [.t 2], false,
 .seq (.r [.mv 2 (.c (.d (.b false))),
 .kill [2]])
 (.seq (.r [.mv 3 (.t 0),
 .bin 4 .geq .num (.t 3) (.c (.d (.u 97))),
 .mv 5 (.t 4),
 .gd 5 true (some 6) (.mv 6 (.t 0)),
 .gd 5 true (some 7) (.bin 7 .leq .num (.t 6) (.c (.d (.u 122)))),
 .pick 8 (.t 5) (.t 7) (.c (.d (.b false))),
 .kill [0, 3, 4, 5, 6, 7],
 .mv 2 (.t 8),
 .keep [2]])
 (.ret))⟩
def iisDigit_m : Fn := ⟨1, [.t 2], false,
 .seq (.r [.mv 2 (.c (.d (.b false))),
 .kill [2]])
 (.seq (.r [.mv 3 (.t 0),
 .bin 4 .geq .num (.t 3) (.c (.d (.u 48))),
 .mv 5 (.t 4),
 .gd 5 true (some 6) (.mv 6 (.t 0)),
 .gd 5 true (some 7) (.bin 7 .leq .num (.t 6) (.c (.d (.u 57)))),
 .pick 8 (.t 5) (.t 7) (.c (.d (.b false))),
 .kill [0, 3, 4, 5, 6, 7],
 .mv 2 (.t 8),
 .keep [2]])
 (.ret))⟩
def iTrim_m : Fn := ⟨1, [.t 2], false,
 .seq (.r [.mv 2 (.c (.d (.s []))),
 .kill [2]])
 (.seq (.r [.mv 3 (.t 0),
 .call 4 true [] (.c (.clo x_strings_Trim [])) [(.t 3), (.c (.d (.s [32, 9])))],
 .mv 2 (.t 4),
 .keep [2]])
 (.ret))⟩
def idigitOf_m : Fn := ⟨1, [.t 2], false,
 .seq (.r [.mv 2 (.c (.d (.i .i64 0))),
 .kill [2]])
 (.seq (.blk 0 (.seq (.r [.mv 4 (.t 0),
 .call 5 true [] (.c (.clo iisDigit [])) [(.t 4)],
 .mv 3 (.t 5),
 .kill [4, 5]])
 (.cond (.t 3)
 (.pre [.kill [3]] (.seq (.r [.mv 6 (.t 0),
 .bin 7 .sub .num (.t 6) (.c (.d (.u 48))),
 .cvi 8 .i64 (.t 7),
 .mv 2 (.t 8),
 .keep [2]])
 (.ret)))
 (.pre [.kill [3]] (.seq (.r [.mv 10 (.t 0),
 .bin 11 .geq .num (.t 10) (.c (.d (.u 97))),
 .mv 12 (.t 11),
 .gd 12 true (some 13) (.mv 13 (.t 0)),
 .gd 12 true (some 14) (.bin 14 .leq .num (.t 13) (.c (.d (.u 102)))),
 .pick 15 (.t 12) (.t 14) (.c (.d (.b false))),
 .kill [10, 11, 12, 13, 14],
 .mv 9 (.t 15),
 .keep [9, 0]])
 (.cond (.t 9)
 (.pre [.kill [9]] (.seq (.r [.mv 16 (.t 0),
 .bin 17 .sub .num (.t 16) (.c (.d (.u 97))),
 .cvi 18 .i64 (.t 17),
 .bin 19 .add .num (.t 18) (.c (.d (.i .i64 10))),
 .mv 2 (.t 19),
 .keep [2]])
 (.ret)))
 (.pre [.kill [9]] (.seq (.r [.mv 21 (.t 0),
 .bin 22 .geq .num (.t 21) (.c (.d (.u 65))),
 .mv 23 (.t 22),
 .gd 23 true (some 24) (.mv 24 (.t 0)),
 .gd 23 true (some 25) (.bin 25 .leq .num (.t 24) (.c (.d (.u 70)))),
 .pick 26 (.t 23) (.t 25) (.c (.d (.b false))),
 .kill [21, 22, 23, 24, 25],
 .mv 20 (.t 26),
 .keep [20, 0]])
 (.cond (.t 20)
 (.pre [.kill [20]] (.seq (.r [.mv 27 (.t 0),
 .bin 28 .sub .num (.t 27) (.c (.d (.u 65))),
 .cvi 29 .i64 (.t 28),
 .bin 30 .add .num (.t 29) (.c (.d (.i .i64 10))),
 .mv 2 (.t 30),
 .keep [2]])
 (.ret)))
 (.pre [.keep []] (.skip)))))))))))
 (.seq (.r [.mv 2 (.c (.d (.i .i64 (-1))))])
 (.ret)))⟩
def icondAt_m : Fn := ⟨1, [.cell 2 3 true, .t 3, .t 4], false,
 .seq (.r [.al 2 TCond false,
 .mv 3 (.c (.d (.s []))),
 .mv 4 (.c (.d (.b false))),
 .kill [3, 4]])
 (.seq (.r [.al 5 TCond false])
 (.seq (.r [.mv 20 (.t 0),
 .call 21 true [] (.c (.clo x_strings_CutPrefix [])) [(.t 20), (.c (.d (.s [78, 111, 116, 32])))],
 .mv 19 (.t 21),
 .ext 22 (.t 19) 0,
 .ext 23 (.t 19) 1,
 .mv 0 (.t 22),
 .fa 24 (.t 5) 0,
 .st 1 (.t 24) (.t 23),
 .keep [5, 2, 0]])
 (.seq (.seq (.r [.mv 26 (.t 0),
 .call 27 true [] (.c (.clo x_strings_CutPrefix [])) [(.t 26), (.c (.d (.s [60])))],
 .mv 25 (.t 27),
 .ext 28 (.t 25) 0,
 .ext 29 (.t 25) 1,
 .mv 6 (.t 28),
 .mv 7 (.t 29),
 .kill [25, 26, 27, 28, 29]])
 (.seq (.r [.mv 30 (.t 7),
 .kill [7]])
 (.cond (.t 30)
 (.pre [.kill [0, 30]] (.seq (.r [.mv 32 (.t 6),
 .call 33 true [] (.c (.clo x_strings_Cut [])) [(.t 32), (.c (.d (.s [62])))],
 .mv 31 (.t 33),
 .ext 34 (.t 31) 0,
 .ext 35 (.t 31) 1,
 .ext 36 (.t 31) 2,
 .mv 8 (.t 34),
 .kill [6, 31, 32, 33, 34],
 .mv 9 (.t 35),
 .mv 10 (.t 36),
 .keep [10, 9, 8, 5, 2]])
 (.seq (.r [.mv 38 (.t 8),
 .call 39 true [] (.c (.clo iParseNum [])) [(.t 38), (.c (.d (.i .i64 9999)))],
 .mv 37 (.t 39),
 .ext 40 (.t 37) 0,
 .ext 41 (.t 37) 1,
 .mv 11 (.t 40),
 .kill [8, 37, 38, 39, 40],
 .mv 12 (.t 41),
 .kill [8, 37, 38, 39, 40, 41]])
 (.seq (.r [.mv 42 (.t 11),
 .fa 43 (.t 5) 1,
 .st 1 (.t 43) (.t 42),
 .kill [42, 43]])
 (.seq (.r [.ld 44 3 true (.t 5),
 .mv 45 (.t 9),
 .mv 46 (.t 10),
 .mv 47 (.t 46),
 .gd 47 true (some 48) (.mv 48 (.t 12)),
 .kill [5, 9, 10, 12, 46],
 .pick 49 (.t 47) (.t 48) (.c (.d (.b false))),
 .mv 50 (.t 49),
 .gd 50 true (some 51) (.mv 51 (.t 11)),
 .gd 50 true (some 52) (.bin 52 .gtr .num (.t 51) (.c (.d (.i .i64 0)))),
 .kill [11, 47, 48, 49, 51],
 .pick 53 (.t 50) (.t 52) (.c (.d (.b false))),
 .st 3 (.t 2) (.t 44),
 .mv 3 (.t 45),
 .mv 4 (.t 53),
 .keep [4, 3, 2],
 .drop [69]])
 (.ret))))))
 (.pre [.kill [6, 30]] (.skip)))))
 (.seq (.r [.mv 55 (.t 0),
 .call 56 true [] (.c (.clo x_strings_CutPrefix [])) [(.t 55), (.c (.d (.s [91])))],
 .mv 54 (.t 56),
 .ext 57 (.t 54) 0,
 .ext 58 (.t 54) 1,
 .mv 13 (.t 57),
 .kill [0, 54, 55, 56, 57],
 .mv 14 (.t 58),
 .keep [14, 13, 5, 2]])
 (.seq (.r [.mv 60 (.t 13),
 .call 61 true [] (.c (.clo itagAt [])) [(.t 60), (.c (.d (.i .i64 1)))],
 .mv 59 (.t 61),
 .ext 62 (.t 59) 0,
 .ext 63 (.t 59) 1,
 .ext 64 (.t 59) 2,
 .mv 15 (.t 62),
 .kill [13, 59, 60, 61, 62],
 .mv 16 (.t 63),
 .mv 17 (.t 64),
 .keep [17, 16, 15, 14, 5, 2]])
 (.seq (.r [.mv 66 (.t 16),
 .call 67 true [] (.c (.clo x_strings_CutPrefix [])) [(.t 66), (.c (.d (.s [93])))],
 .mv 65 (.t 67),
 .ext 68 (.t 65) 0,
 .ext 69 (.t 65) 1,
 .mv 16 (.t 68),
 .mv 18 (.t 69),
 .kill [65, 66, 67, 68, 69]])
 (.seq (.r [.mv 70 (.t 15),
 .fa 71 (.t 5) 2,
 .st 1 (.t 71) (.t 70),
 .kill [15, 70, 71]])
 (.seq (.r [.ld 72 3 true (.t 5),
 .mv 73 (.t 16),
 .mv 74 (.t 14),
 .mv 75 (.t 74),
 .gd 75 true (some 76) (.mv 76 (.t 17)),
 .kill [5, 14, 16, 17, 74],
 .pick 77 (.t 75) (.t 76) (.c (.d (.b false))),
 .mv 78 (.t 77),
 .gd 78 true (some 79) (.mv 79 (.t 18)),
 .pick 80 (.t 78) (.t 79) (.c (.d (.b false))),
 .kill [18, 75, 76, 77, 78, 79],
 .st 3 (.t 2) (.t 72),
 .mv 3 (.t 73),
 .mv 4 (.t 80),
 .keep [4, 3, 2],
 .drop [69]])
 (.ret)))))))))⟩
/-- live: [1, 7, 15, 16, 17]; objects: [] -/
def itagged_l0 : C :=
 .seq (.r [.bin 18 .lss .num (.t 17) (.t 16)])
 (.seq (.cond (.t 18)
 (.pre [.kill [18]] (.skip))
 (.pre [.keep [7]] (.ex 0)))
 (.seq (.blk 1 (.seq (.r [.ia 19 1 (.t 15) (.t 17),
 .ld 20 1 false (.t 19),
 .mv 9 (.t 20),
 .kill [19, 20]])
 (.seq (.r [.mv 21 (.t 9),
 .mv 22 (.t 1),
 .bin 23 .eql .num (.t 21) (.t 22),
 .kill [9, 21, 22]])
 (.cond (.t 23)
 (.pre [.keep [7]] (.seq (.r [.mv 24 (.t 7),
 .mv 4 (.c (.d (.b true))),
 .mv 5 (.t 24),
 .kill [7, 24]])
 (.ret)))
 (.pre [.kill [23]] (.skip))))))
 (.r [.bin 25 .add .num (.t 17) (.c (.d (.i .i64 1))),
 .mv 17 (.t 25),
 .kill [25]])))
def itagged_m : Fn := ⟨2, [.t 4, .t 5], false,
 .seq (.r [.mv 4 (.c (.d (.b false))),
 .mv 5 (.c (.d (.b false))),
 .kill [4, 5]])
 (.seq (.r [.mv 11 (.t 0),
 .call 12 true [] (.c (.clo iParseTags [])) [(.t 11)],
 .mv 10 (.t 12),
 .ext 13 (.t 10) 0,
 .ext 14 (.t 10) 1,
 .mv 6 (.t 13),
 .kill [0, 10, 11, 12, 13],
 .mv 7 (.t 14),
 .keep [7, 6, 1]])
 (.seq (.seq (.r [.mv 15 (.t 6),
 .len 16 (.t 15),
 .mv 17 (.c (.d (.i .i64 0))),
 .kill [6]])
 (.blk 0 (.pre [.keep [17, 16, 15, 7, 1]] (.loop itagged_l0))))
 (.seq (.r [.mv 26 (.t 7),
 .mv 4 (.c (.d (.b false))),
 .mv 5 (.t 26),
 .kill [7, 26]])
 (.ret))))⟩
def iMayChange_1_m : Fn := ⟨4, [.t 6], false,
 .seq (.r [.mv 6 (.c (.d (.b false))),
 .kill [6]])
 (.seq (.r [.fa 7 (.t 2) 1,
 .ld 8 1 false (.t 7),
 .mv 9 (.t 0),
 .mv 10 (.t 1),
 .fa 11 (.t 3) 4,
 .kill [0, 1, 2, 3, 7],
 .ld 12 1 false (.t 11),
 .call 13 true [] (.c (.clo iMayTurn [])) [(.t 8), (.t 9), (.t 10), (.t 12)],
 .kill [8, 9, 10, 11, 12],
 .mv 6 (.t 13),
 .keep [6]])
 (.ret))⟩
def iMayChange_2_m : Fn := ⟨2, [.t 2], false,
 .seq (.r [.mv 2 (.c (.d (.b false))),
 .kill [2]])
 (.seq (.post (.r [.ld 3 1 false (.t 0),
 .fa 4 (.t 1) 0,
 .ld 5 1 false (.t 4),
 .call 6 true [] (.t 3) [(.t 5), (.c (.d (.b true)))],
 .mv 7 (.t 6),
 .gd 7 true (some 8) (.ld 8 1 false (.t 0)),
 .gd 7 true (some 9) (.fa 9 (.t 1) 0),
 .gd 7 true (some 10) (.ld 10 1 false (.t 9)),
 .gd 7 true (some 11) (.call 11 true [] (.c (.clo iAbove [])) [(.t 10)]),
 .gd 7 true (some 12) (.call 12 true [] (.t 8) [(.t 11), (.c (.d (.b false)))]),
 .pick 13 (.t 7) (.t 12) (.c (.d (.b false))),
 .mv 2 (.t 13)]) [.keep [2]])
 (.ret))⟩
def iMayChange_3_m : Fn := ⟨2, [.t 2], false,
 .seq (.r [.mv 2 (.c (.d (.b false))),
 .kill [2]])
 (.seq (.post (.r [.ld 3 1 false (.t 0),
 .fa 4 (.t 1) 1,
 .ld 5 1 false (.t 4),
 .call 6 true [] (.t 3) [(.t 5), (.c (.d (.b true)))],
 .mv 7 (.t 6),
 .gd 7 true (some 8) (.ld 8 1 false (.t 0)),
 .gd 7 true (some 9) (.fa 9 (.t 1) 1),
 .gd 7 true (some 10) (.ld 10 1 false (.t 9)),
 .gd 7 true (some 11) (.call 11 true [] (.c (.clo iAbove [])) [(.t 10)]),
 .gd 7 true (some 12) (.call 12 true [] (.t 8) [(.t 11), (.c (.d (.b false)))]),
 .pick 13 (.t 7) (.t 12) (.c (.d (.b false))),
 .mv 2 (.t 13)]) [.keep [2]])
 (.ret))⟩
/-- live: [0, 4]; objects: [68] -/
def iPieces_l0 : C :=
 .seq (.seq (.r [.mv 11 (.t 0),
 .bin 12 .neq .num (.t 11) (.c (.d (.s []))),
 .kill [11]])
 (.cond (.t 12)
 (.pre [.kill [12]] (.skip))
 (.pre [.keep [4]] (.ex 0))))
 (.blk 1 (.seq (.r [.al 5 TPiece false])
 (.seq (.r [.mv 6 (.c (.d (.b false))),
 .kill [6]])
 (.seq (.seq (.r [.mv 13 (.t 0),
 .ix 14 (.t 13) (.c (.d (.i .i64 0))),
 .bin 15 .eql .num (.t 14) (.c (.d (.u 60))),
 .kill [13, 14]])
 (.cond (.t 15)
 (.pre [.kill [15]] (.r [.mv 17 (.t 0),
 .call 18 true [] (.c (.clo imarkAt [])) [(.t 17)],
 .mv 16 (.t 18),
 .ext 19 (.t 16) 0,
 .ext 20 (.t 16) 1,
 .ext 21 (.t 16) 2,
 .st 5 (.t 5) (.t 19),
 .kill [0, 16, 17, 18, 19],
 .mv 0 (.t 20),
 .mv 6 (.t 21),
 .keep [6, 5, 4, 0]]))
 (.pre [.kill [15]] (.seq (.r [.mv 22 (.t 0),
 .call 23 true [] (.c (.clo x_strings_IndexByte [])) [(.t 22), (.c (.d (.u 60)))],
 .mv 7 (.t 23),
 .kill [22, 23]])
 (.seq (.seq (.r [.mv 24 (.t 7),
 .bin 25 .lss .num (.t 24) (.c (.d (.i .i64 0))),
 .kill [24]])
 (.cond (.t 25)
 (.pre [.kill [7, 25]] (.r [.mv 26 (.t 0),
 .lns 27 (.t 26),
 .mv 7 (.t 27),
 .kill [26, 27]]))
 (.pre [.kill [25]] (.skip))))
 (.seq (.r [.fa 28 (.t 5) 0,
 .st 1 (.t 28) (.c (.d (.i .i64 4))),
 .kill [28]])
 (.seq (.r [.mv 30 (.t 0),
 .mv 31 (.t 7),
 .slc 32 0 (.t 30) none (some (.t 31)),
 .call 33 true [] (.c (.clo iUnescape [])) [(.t 32)],
 .mv 29 (.t 33),
 .ext 34 (.t 29) 0,
 .ext 35 (.t 29) 1,
 .kill [29, 30, 31, 32, 33],
 .fa 36 (.t 5) 4,
 .st 1 (.t 36) (.t 34),
 .mv 6 (.t 35),
 .keep [7, 6, 5, 4, 0]])
 (.r [.mv 37 (.t 0),
 .mv 38 (.t 7),
 .slc 39 0 (.t 37) (some (.t 38)) none,
 .mv 0 (.t 39),
 .kill [7, 37, 38, 39]]))))))))
 (.seq (.seq (.r [.mv 40 (.t 6),
 .not 41 (.t 40),
 .mv 42 (.t 41),
 .gd 42 false (some 43) (.mv 43 (.t 4)),
 .gd 42 false (some 44) (.len 44 (.t 43)),
 .gd 42 false (some 45) (.bin 45 .geq .num (.t 44) (.c (.d (.i .i64 60)))),
 .kill [6, 40, 41, 43, 44],
 .pick 46 (.t 42) (.c (.d (.b true))) (.t 45),
 .keep [46, 5, 4, 0]])
 (.cond (.t 46)
 (.pre [.keep [], .drop [68, 69]] (.seq (.r [.mv 2 (.c (.nil TPiece)),
 .opn 2 2 false,
 .mv 3 (.c (.d (.b false)))])
 (.ret)))
 (.pre [.kill [46]] (.skip))))
 (.r [.mv 47 (.t 4),
 .ld 48 5 true (.t 5),
 .bs 49 TPiece false 1 [.d (.i .i64 0), .d (.s []), .d (.s []), .d (.b false), .d (.s [])] [(0, (.t 48))],
 .app 50 TPiece false 64 (.t 47) (.t 49),
 .kill [4, 5, 47, 48, 49],
 .mv 4 (.t 50),
 .ren 114 68,
 .keep [4, 0],
 .drop [69, 113, 114]]))))))
def iPieces_m : Fn := ⟨1, [.t 2, .t 3], false,
 .seq (.r [.mv 2 (.c (.nil TPiece)),
 .opn 2 2 false,
 .mv 3 (.c (.d (.b false))),
 .keep [0],
 .drop [66]])
 (.seq (.seq (.r [.mv 8 (.t 0),
 .call 9 true [] (.c (.clo iPlain [])) [(.t 8)],
 .not 10 (.t 9),
 .kill [8, 9]])
 (.cond (.t 10)
 (.pre [.keep []] (.seq (.r [.mv 2 (.c (.nil TPiece)),
 .opn 2 2 false,
 .mv 3 (.c (.d (.b false)))])
 (.ret)))
 (.pre [.kill [10]] (.skip))))
 (.seq (.r [.mv 4 (.c (.nil TPiece)),
 .opn 4 4 false])
 (.seq (.blk 0 (.pre [.keep [4, 0]] (.loop iPieces_l0)))
 (.seq (.r [.mv 51 (.t 4),
 .mv 2 (.t 51),
 .ren 68 66,
 .mv 3 (.c (.d (.b true))),
 .kill [4, 51],
 .drop [68]])
 (.ret)))))⟩
/-- live: [0]; objects: [0] -/
def inodes_blanks_l0 : C :=
 .seq (.seq (.post (.r [.mv 2 (.t 0),
 .nchk 3 (.t 2),
 .fa 4 (.t 3) 1,
 .ld 5 1 false (.t 4),
 .mv 6 (.t 0),
 .nchk 7 (.t 6),
 .fa 8 (.t 7) 0,
 .ld 9 1 false (.t 8),
 .len 10 (.t 9),
 .bin 11 .lss .num (.t 5) (.t 10),
 .mv 12 (.t 11),
 .gd 12 true (some 13) (.mv 13 (.t 0)),
 .gd 12 true (some 14) (.nchk 14 (.t 13)),
 .gd 12 true (some 15) (.fa 15 (.t 14) 0),
 .gd 12 true (some 16) (.ld 16 1 false (.t 15)),
 .gd 12 true (some 17) (.mv 17 (.t 0)),
 .gd 12 true (some 18) (.nchk 18 (.t 17)),
 .gd 12 true (some 19) (.fa 19 (.t 18) 1),
 .gd 12 true (some 20) (.ld 20 1 false (.t 19)),
 .gd 12 true (some 21) (.ia 21 5 (.t 16) (.t 20)),
 .gd 12 true (some 22) (.fa 22 (.t 21) 0),
 .gd 12 true (some 23) (.ld 23 1 false (.t 22)),
 .gd 12 true (some 24) (.bin 24 .eql .num (.t 23) (.c (.d (.i .i64 4)))),
 .pick 25 (.t 12) (.t 24) (.c (.d (.b false))),
 .mv 26 (.t 25),
 .gd 26 true (some 27) (.mv 27 (.t 0)),
 .gd 26 true (some 28) (.nchk 28 (.t 27)),
 .gd 26 true (some 29) (.fa 29 (.t 28) 0),
 .gd 26 true (some 30) (.ld 30 1 false (.t 29)),
 .gd 26 true (some 31) (.mv 31 (.t 0)),
 .gd 26 true (some 32) (.nchk 32 (.t 31)),
 .gd 26 true (some 33) (.fa 33 (.t 32) 1),
 .gd 26 true (some 34) (.ld 34 1 false (.t 33)),
 .gd 26 true (some 35) (.ia 35 5 (.t 30) (.t 34)),
 .gd 26 true (some 36) (.fa 36 (.t 35) 4),
 .gd 26 true (some 37) (.ld 37 1 false (.t 36)),
 .gd 26 true (some 38) (.call 38 true [] (.c (.clo iisBlank [])) [(.t 37)]),
 .pick 39 (.t 26) (.t 38) (.c (.d (.b false)))]) [.keep [39, 0]])
 (.cond (.t 39)
 (.pre [.kill [39]] (.skip))
 (.pre [.keep []] (.ex 0))))
 (.blk 1 (.r [.mv 40 (.t 0),
 .nchk 41 (.t 40),
 .fa 42 (.t 41) 1,
 .ld 43 1 false (.t 42),
 .bin 44 .add .num (.t 43) (.c (.d (.i .i64 1))),
 .nchk 45 (.t 40),
 .fa 46 (.t 45) 1,
 .kill [40, 41, 42, 43, 45],
 .st 1 (.t 46) (.t 44),
 .keep [0]]))
def inodes_blanks_m : Fn := ⟨1, [], false,
 .blk 0 (.pre [.keep [0]] (.loop inodes_blanks_l0))⟩
/-- live: [0, 2, 6, 8, 9]; objects: [0, 70, 72] -/
def inodes_node_l0 : C :=
 .seq (.seq (.post (.r [.mv 88 (.t 0),
 .nchk 89 (.t 88),
 .fa 90 (.t 89) 2,
 .ld 91 1 false (.t 90),
 .not 92 (.t 91),
 .mv 93 (.t 92),
 .gd 93 true (some 94) (.mv 94 (.t 0)),
 .gd 93 true (some 95) (.nchk 95 (.t 94)),
 .gd 93 true (some 96) (.fa 96 (.t 95) 1),
 .gd 93 true (some 97) (.ld 97 1 false (.t 96)),
 .gd 93 true (some 98) (.mv 98 (.t 0)),
 .gd 93 true (some 99) (.nchk 99 (.t 98)),
 .gd 93 true (some 100) (.fa 100 (.t 99) 0),
 .gd 93 true (some 101) (.ld 101 1 false (.t 100)),
 .gd 93 true (some 102) (.len 102 (.t 101)),
 .gd 93 true (some 103) (.bin 103 .lss .num (.t 97) (.t 102)),
 .pick 104 (.t 93) (.t 103) (.c (.d (.b false))),
 .mv 105 (.t 104),
 .gd 105 true (some 106) (.mv 106 (.t 0)),
 .gd 105 true (some 107) (.nchk 107 (.t 106)),
 .gd 105 true (some 108) (.fa 108 (.t 107) 0),
 .gd 105 true (some 109) (.ld 109 1 false (.t 108)),
 .gd 105 true (some 110) (.mv 110 (.t 0)),
 .gd 105 true (some 111) (.nchk 111 (.t 110)),
 .gd 105 true (some 112) (.fa 112 (.t 111) 1),
 .gd 105 true (some 113) (.ld 113 1 false (.t 112)),
 .gd 105 true (some 114) (.ia 114 5 (.t 109) (.t 113)),
 .gd 105 true (some 115) (.fa 115 (.t 114) 0),
 .gd 105 true (some 116) (.ld 116 1 false (.t 115)),
 .gd 105 true (some 117) (.bin 117 .neq .num (.t 116) (.c (.d (.i .i64 2)))),
 .pick 118 (.t 105) (.t 117) (.c (.d (.b false)))]) [.keep [118, 9, 8, 6, 2, 0]])
 (.cond (.t 118)
 (.pre [.kill [118]] (.skip))
 (.pre [.kill [2, 118]] (.ex 0))))
 (.blk 1 (.seq (.seq (.post (.r [.an [74] [] [] [] (.mv 119 (.t 0)),
 .an [74] [] [] [] (.nchk 120 (.t 119)),
 .an [74] [] [] [] (.fa 121 (.t 120) 0),
 .an [74] [] [] [] (.ld 122 1 false (.t 121)),
 .an [74] [] [] [] (.mv 123 (.t 0)),
 .an [74] [] [] [] (.nchk 124 (.t 123)),
 .an [74] [] [] [] (.fa 125 (.t 124) 1),
 .an [74] [] [] [] (.ld 126 1 false (.t 125)),
 .an [74] [] [] [] (.ia 127 5 (.t 122) (.t 126)),
 .an [74] [] [] [] (.ld 128 5 true (.t 127)),
 .an [] [] [74] [] (.al 10 TPiece false),
 .an [] [] [] [74] (.st 5 (.t 10) (.t 128))]) [.keep [10, 9, 8, 6, 2, 0]])
 (.seq (.r [.fa 129 (.t 10) 0,
 .ld 130 1 false (.t 129),
 .bin 131 .eql .num (.t 130) (.c (.d (.i .i64 4))),
 .kill [129, 130]])
 (.cond (.t 131)
 (.pre [.kill [131]] (.seq (.r [.fa 132 (.t 8) 2,
 .ld 133 1 false (.t 132),
 .fa 134 (.t 10) 4,
 .ld 135 1 false (.t 134),
 .bin 136 .add .num (.t 133) (.t 135),
 .fa 137 (.t 8) 2,
 .st 1 (.t 137) (.t 136),
 .kill [132, 133, 134, 135, 136, 137]])
 (.seq (.r [.mv 138 (.t 9),
 .mv 139 (.t 138),
 .gd 139 false (some 140) (.fa 140 (.t 10) 4),
 .gd 139 false (some 141) (.ld 141 1 false (.t 140)),
 .gd 139 false (some 142) (.call 142 true [] (.c (.clo iisBlank [])) [(.t 141)]),
 .kill [9, 10, 138, 140, 141],
 .gd 139 false (some 143) (.not 143 (.t 142)),
 .pick 144 (.t 139) (.c (.d (.b true))) (.t 143),
 .mv 9 (.t 144),
 .keep [9, 8, 6, 2, 0],
 .drop [74]])
 (.seq (.r [.mv 145 (.t 0),
 .nchk 146 (.t 145),
 .fa 147 (.t 146) 1,
 .ld 148 1 false (.t 147),
 .bin 149 .add .num (.t 148) (.c (.d (.i .i64 1))),
 .nchk 150 (.t 145),
 .fa 151 (.t 150) 1,
 .kill [145, 146, 147, 148, 150],
 .st 1 (.t 151) (.t 149),
 .keep [9, 8, 6, 2, 0]])
 (.ex 1)))))
 (.pre [.kill [10, 131], .drop [74]] (.skip)))))
 (.seq (.r [.mv 152 (.t 0),
 .fa 153 (.t 8) 0,
 .ld 154 1 false (.t 153),
 .mv 155 (.t 2),
 .bin 156 .add .num (.t 155) (.c (.d (.i .i64 1))),
 .call 157 false [0] (.c (.clo inodes_node [])) [(.t 152), (.t 154), (.t 156)],
 .kill [152, 153, 154, 155, 156],
 .al 11 .node false,
 .st 4 (.t 11) (.t 157),
 .kill [152, 153, 154, 155, 156, 157],
 .drop [158067]])
 (.r [.fa 158 (.t 8) 3,
 .ldm 159 (.t 158),
 .ldt 160 4 true (.t 11),
 .bs 161 .node false 1 [.d (.s []), .d (.s []), .d (.s []), .nil .node] [(0, (.t 160))],
 .app 162 .node false 72 (.t 159) (.t 161),
 .kill [11, 158, 159, 160, 161],
 .fa 163 (.t 8) 3,
 .st 1 (.t 163) (.t 162),
 .keep [9, 8, 6, 2, 0],
 .drop [75, 223, 225, 226, 161067]]))))
def inodes_node_m : Fn := ⟨3, [.cell 6 4 true], false,
 .seq (.r [.al 6 .node false])
 (.seq (.seq (.post (.r [.mv 12 (.t 0),
 .nchk 13 (.t 12),
 .fa 14 (.t 13) 1,
 .ld 15 1 false (.t 14),
 .mv 16 (.t 0),
 .nchk 17 (.t 16),
 .fa 18 (.t 17) 0,
 .ld 19 1 false (.t 18),
 .len 20 (.t 19),
 .bin 21 .geq .num (.t 15) (.t 20),
 .mv 22 (.t 21),
 .gd 22 false (some 23) (.mv 23 (.t 0)),
 .gd 22 false (some 24) (.nchk 24 (.t 23)),
 .gd 22 false (some 25) (.fa 25 (.t 24) 0),
 .gd 22 false (some 26) (.ld 26 1 false (.t 25)),
 .gd 22 false (some 27) (.mv 27 (.t 0)),
 .gd 22 false (some 28) (.nchk 28 (.t 27)),
 .gd 22 false (some 29) (.fa 29 (.t 28) 1),
 .gd 22 false (some 30) (.ld 30 1 false (.t 29)),
 .gd 22 false (some 31) (.ia 31 5 (.t 26) (.t 30)),
 .gd 22 false (some 32) (.fa 32 (.t 31) 0),
 .gd 22 false (some 33) (.ld 33 1 false (.t 32)),
 .gd 22 false (some 34) (.bin 34 .neq .num (.t 33) (.c (.d (.i .i64 1)))),
 .gd 22 false (some 35) (.mv 35 (.t 34)),
 .gd 35 true (some 36) (.mv 36 (.t 0)),
 .gd 35 true (some 37) (.nchk 37 (.t 36)),
 .gd 35 true (some 38) (.fa 38 (.t 37) 0),
 .gd 35 true (some 39) (.ld 39 1 false (.t 38)),
 .gd 35 true (some 40) (.mv 40 (.t 0)),
 .gd 35 true (some 41) (.nchk 41 (.t 40)),
 .gd 35 true (some 42) (.fa 42 (.t 41) 1),
 .gd 35 true (some 43) (.ld 43 1 false (.t 42)),
 .gd 35 true (some 44) (.ia 44 5 (.t 39) (.t 43)),
 .gd 35 true (some 45) (.fa 45 (.t 44) 0),
 .gd 35 true (some 46) (.ld 46 1 false (.t 45)),
 .gd 35 true (some 47) (.bin 47 .neq .num (.t 46) (.c (.d (.i .i64 3)))),
 .gd 22 false (some 48) (.pick 48 (.t 35) (.t 47) (.c (.d (.b false)))),
 .pick 49 (.t 22) (.c (.d (.b true))) (.t 48),
 .mv 50 (.t 49),
 .gd 50 false (some 51) (.mv 51 (.t 2)),
 .gd 50 false (some 52) (.bin 52 .gtr .num (.t 51) (.c (.d (.i .i64 5)))),
 .pick 53 (.t 50) (.c (.d (.b true))) (.t 52)]) [.keep [53, 6, 2, 1, 0]])
 (.cond (.t 53)
 (.pre [.keep [6, 0]] (.seq (.r [.mv 54 (.t 0),
 .nchk 55 (.t 54),
 .fa 56 (.t 55) 2,
 .st 1 (.t 56) (.c (.d (.b true))),
 .keep [6]])
 (.seq (.r [.bd 57 [.d (.s []), .d (.s []), .d (.s []), .nil .node] [],
 .st 4 (.t 6) (.t 57),
 .kill [57]])
 (.ret))))
 (.pre [.kill [53]] (.skip))))
 (.seq (.post (.r [.an [71] [] [] [] (.mv 58 (.t 0)),
 .an [71] [] [] [] (.nchk 59 (.t 58)),
 .an [71] [] [] [] (.fa 60 (.t 59) 0),
 .an [71] [] [] [] (.ld 61 1 false (.t 60)),
 .an [71] [] [] [] (.mv 62 (.t 0)),
 .an [71] [] [] [] (.nchk 63 (.t 62)),
 .an [71] [] [] [] (.fa 64 (.t 63) 1),
 .an [71] [] [] [] (.ld 65 1 false (.t 64)),
 .an [71] [] [] [] (.ia 66 5 (.t 61) (.t 65)),
 .an [71] [] [] [] (.ld 67 5 true (.t 66)),
 .an [] [] [71] [] (.al 7 TPiece false),
 .an [] [] [] [71] (.st 5 (.t 7) (.t 67))]) [.keep [7, 6, 2, 1, 0]])
 (.seq (.r [.mv 68 (.t 0),
 .nchk 69 (.t 68),
 .fa 70 (.t 69) 1,
 .ld 71 1 false (.t 70),
 .bin 72 .add .num (.t 71) (.c (.d (.i .i64 1))),
 .nchk 73 (.t 68),
 .fa 74 (.t 73) 1,
 .kill [68, 69, 70, 71, 73],
 .st 1 (.t 74) (.t 72),
 .keep [7, 6, 2, 1, 0]])
 (.seq (.r [.mv 75 (.t 1),
 .fa 76 (.t 7) 1,
 .ld 77 1 false (.t 76),
 .bd 78 [.d (.s []), .d (.s []), .d (.s []), .nil .node] [(0, 1, (.t 75)), (1, 1, (.t 77))],
 .al 8 .node false,
 .st 4 (.t 8) (.t 78),
 .kill [1, 75, 76, 77, 78]])
 (.seq (.seq (.r [.fa 79 (.t 7) 3,
 .ld 80 1 false (.t 79),
 .kill [79]])
 (.cond (.t 80)
 (.pre [.kill [80]] (.r [.fa 81 (.t 7) 2,
 .ld 82 1 false (.t 81),
 .fa 83 (.t 8) 0,
 .st 1 (.t 83) (.t 82),
 .kill [81, 82, 83]]))
 (.pre [.kill [80]] (.skip))))
 (.seq (.seq (.r [.fa 84 (.t 7) 0,
 .ld 85 1 false (.t 84),
 .bin 86 .eql .num (.t 85) (.c (.d (.i .i64 3))),
 .kill [7, 84, 85],
 .drop [71]])
 (.cond (.t 86)
 (.pre [.keep [8, 6]] (.seq (.r [.ldt 87 4 true (.t 8),
 .st 4 (.t 6) (.t 87),
 .keep [6],
 .drop [72, 88067]])
 (.ret)))
 (.pre [.kill [86]] (.skip))))
 (.seq (.r [.mv 9 (.c (.d (.b false)))])
 (.seq (.blk 0 (.pre [.keep [9, 8, 6, 2, 0]] (.loop inodes_node_l0)))
 (.seq (.seq (.r [.fa 164 (.t 8) 3,
 .ld 165 1 false (.t 164),
 .len 166 (.t 165),
 .bin 167 .gtr .num (.t 166) (.c (.d (.i .i64 0))),
 .kill [164, 165, 166]])
 (.cond (.t 167)
 (.pre [.kill [167]] (.seq (.r [.mv 168 (.t 0),
 .mv 169 (.t 0),
 .nchk 170 (.t 169),
 .fa 171 (.t 170) 2,
 .ld 172 1 false (.t 171),
 .mv 173 (.t 172),
 .gd 173 false (some 174) (.mv 174 (.t 9)),
 .kill [9, 169, 170, 171, 172],
 .pick 175 (.t 173) (.c (.d (.b true))) (.t 174),
 .nchk 176 (.t 168),
 .fa 177 (.t 176) 2,
 .st 1 (.t 177) (.t 175),
 .keep [8, 6, 0]])
 (.r [.fa 178 (.t 8) 2,
 .st 1 (.t 178) (.c (.d (.s []))),
 .kill [178]])))
 (.pre [.kill [9, 167]] (.skip))))
 (.seq (.seq (.post (.r [.mv 179 (.t 0),
 .nchk 180 (.t 179),
 .fa 181 (.t 180) 1,
 .ld 182 1 false (.t 181),
 .mv 183 (.t 0),
 .nchk 184 (.t 183),
 .fa 185 (.t 184) 0,
 .ld 186 1 false (.t 185),
 .len 187 (.t 186),
 .bin 188 .geq .num (.t 182) (.t 187),
 .mv 189 (.t 188),
 .gd 189 false (some 190) (.mv 190 (.t 0)),
 .gd 189 false (some 191) (.nchk 191 (.t 190)),
 .gd 189 false (some 192) (.fa 192 (.t 191) 0),
 .gd 189 false (some 193) (.ld 193 1 false (.t 192)),
 .gd 189 false (some 194) (.mv 194 (.t 0)),
 .gd 189 false (some 195) (.nchk 195 (.t 194)),
 .gd 189 false (some 196) (.fa 196 (.t 195) 1),
 .gd 189 false (some 197) (.ld 197 1 false (.t 196)),
 .gd 189 false (some 198) (.ia 198 5 (.t 193) (.t 197)),
 .gd 189 false (some 199) (.fa 199 (.t 198) 1),
 .gd 189 false (some 200) (.ld 200 1 false (.t 199)),
 .gd 189 false (some 201) (.fa 201 (.t 8) 1),
 .gd 189 false (some 202) (.ld 202 1 false (.t 201)),
 .gd 189 false (some 203) (.bin 203 .neq .num (.t 200) (.t 202)),
 .pick 204 (.t 189) (.c (.d (.b true))) (.t 203)]) [.keep [204, 8, 6, 0]])
 (.cond (.t 204)
 (.pre [.kill [204]] (.r [.mv 205 (.t 0),
 .nchk 206 (.t 205),
 .fa 207 (.t 206) 2,
 .st 1 (.t 207) (.c (.d (.b true))),
 .kill [205, 206, 207]]))
 (.pre [.kill [204]] (.skip))))
 (.seq (.r [.mv 208 (.t 0),
 .nchk 209 (.t 208),
 .fa 210 (.t 209) 1,
 .ld 211 1 false (.t 210),
 .bin 212 .add .num (.t 211) (.c (.d (.i .i64 1))),
 .nchk 213 (.t 208),
 .kill [0, 208, 209, 210, 211],
 .fa 214 (.t 213) 1,
 .st 1 (.t 214) (.t 212),
 .keep [8, 6]])
 (.seq (.r [.ldt 215 4 true (.t 8),
 .st 4 (.t 6) (.t 215),
 .keep [6],
 .drop [72, 216067]])
 (.ret)))))))))))))⟩
def iNodeOk_m : Fn := ⟨1, [.t 2], false,
 .seq (.r [.bx 1 .node true (.t 0),
 .mv 2 (.c (.d (.b false))),
 .keep [1]])
 (.seq (.r [.ld 6 4 true (.t 1),
 .call 7 true [] (.c (.clo inodeOk [])) [(.t 6), (.c (.d (.i .i64 1)))],
 .mv 5 (.t 7),
 .ext 8 (.t 5) 0,
 .ext 9 (.t 5) 1,
 .mv 3 (.t 8),
 .kill [1, 3, 5, 6, 7, 8],
 .mv 4 (.t 9),
 .keep [4],
 .drop [65]])
 (.seq (.r [.mv 10 (.t 4),
 .mv 2 (.t 10),
 .keep [2]])
 (.ret)))⟩
def iisDav_m : Fn := ⟨2, [.t 4], false,
 .seq (.r [.bx 2 .node true (.t 0),
 .mv 4 (.c (.d (.b false))),
 .kill [0, 4]])
 (.seq (.r [.fa 5 (.t 2) 0,
 .ld 6 1 false (.t 5),
 .bin 7 .eql .num (.t 6) (.c (.d (.s [68, 65, 86, 58]))),
 .mv 8 (.t 7),
 .gd 8 true (some 9) (.fa 9 (.t 2) 1),
 .gd 8 true (some 10) (.ld 10 1 false (.t 9)),
 .kill [2, 5, 6, 7, 9],
 .gd 8 true (some 11) (.mv 11 (.t 1)),
 .gd 8 true (some 12) (.bin 12 .eql .num (.t 10) (.t 11)),
 .pick 13 (.t 8) (.t 12) (.c (.d (.b false))),
 .kill [1, 8, 10, 11, 12],
 .mv 4 (.t 13),
 .keep [4],
 .drop [66]])
 (.ret))⟩
/-- live: [6, 7, 14, 15, 16]; objects: [71, 75] -/
def iSetProps_l0 : C :=
 .seq (.r [.bin 17 .lss .num (.t 16) (.t 15)])
 (.seq (.cond (.t 17)
 (.pre [.kill [17]] (.skip))
 (.pre [.keep [7, 6]] (.ex 0)))
 (.seq (.blk 1 (.seq (.r [.ia 18 4 (.t 14) (.t 16),
 .ld 19 4 true (.t 18),
 .al 9 TSet false,
 .st 4 (.t 9) (.t 19),
 .kill [18, 19]])
 (.seq (.seq (.r [.fa 20 (.t 9) 1,
 .ld 21 3 true (.t 20),
 .call 22 true [] (.c (.clo ipropOk [])) [(.t 21)],
 .not 23 (.t 22),
 .kill [20, 21, 22]])
 (.cond (.t 23)
 (.pre [.keep [6], .drop [71, 73]] (.seq (.r [.mv 24 (.t 6),
 .mv 4 (.t 24),
 .ren 75 68,
 .mv 5 (.c (.d (.b false))),
 .kill [6, 24],
 .drop [75]])
 (.ret)))
 (.pre [.kill [23]] (.skip))))
 (.r [.mv 25 (.t 7),
 .ld 26 4 true (.t 9),
 .call 27 false [] (.c (.clo isetProp [])) [(.t 25), (.t 26)],
 .mv 7 (.t 27),
 .ren 28064 71,
 .kill [9, 25, 26, 27],
 .drop [73, 28064]]))))
 (.r [.bin 28 .add .num (.t 16) (.c (.d (.i .i64 1))),
 .mv 16 (.t 28),
 .kill [28]])))
def iSetProps_m : Fn := ⟨2, [.t 4, .t 5], false,
 .seq (.r [.mv 4 (.c (.nil TProp)),
 .opn 4 4 false,
 .mv 5 (.c (.d (.b false))),
 .kill [4, 5],
 .drop [68]])
 (.seq (.r [.mv 10 (.t 0),
 .app 11 TProp false 48 (.c (.nil TProp)) (.t 10),
 .mv 6 (.t 11),
 .kill [10, 11]])
 (.seq (.r [.mv 12 (.t 0),
 .app 13 TProp false 48 (.c (.nil TProp)) (.t 12),
 .mv 7 (.t 13),
 .ren 77 71,
 .kill [0, 12, 13],
 .drop [77]])
 (.seq (.seq (.r [.mv 14 (.t 1),
 .len 15 (.t 14),
 .mv 16 (.c (.d (.i .i64 0))),
 .kill [1]])
 (.blk 0 (.pre [.keep [16, 15, 14, 7, 6]] (.loop iSetProps_l0))))
 (.seq (.seq (.r [.mv 29 (.t 7),
 .call 30 true [] (.c (.clo iPropsOk [])) [(.t 29)],
 .not 31 (.t 30),
 .kill [29, 30]])
 (.cond (.t 31)
 (.pre [.keep [6], .drop [71]] (.seq (.r [.mv 32 (.t 6),
 .mv 4 (.t 32),
 .ren 75 68,
 .mv 5 (.c (.d (.b false))),
 .kill [6, 32],
 .drop [75]])
 (.ret)))
 (.pre [.keep [7], .drop [75]] (.skip))))
 (.seq (.r [.mv 33 (.t 7),
 .mv 4 (.t 33),
 .ren 71 68,
 .mv 5 (.c (.d (.b true))),
 .kill [7, 33],
 .drop [71]])
 (.ret))))))⟩
/-- live: [2, 6, 37, 38, 39]; objects: [66] -/
def inodeText_l0 : C :=
 .seq (.r [.bin 40 .lss .num (.t 39) (.t 38)])
 (.seq (.cond (.t 40)
 (.pre [.kill [40]] (.skip))
 (.pre [.keep [6, 2]] (.ex 0)))
 (.seq (.blk 1 (.seq (.r [.ia 41 4 (.t 37) (.t 39),
 .ld 42 4 true (.t 41),
 .al 8 .node true,
 .st 4 (.t 8) (.t 42),
 .kill [41, 42]])
 (.r [.mv 43 (.t 6),
 .ld 44 4 true (.t 8),
 .fa 45 (.t 2) 0,
 .ld 46 1 false (.t 45),
 .call 47 true [] (.c (.clo inodeText [])) [(.t 44), (.t 46)],
 .kill [6, 8, 44, 45, 46],
 .bin 48 .add .num (.t 43) (.t 47),
 .mv 6 (.t 48),
 .keep [39, 38, 37, 6, 2],
 .drop [72]])))
 (.r [.bin 49 .add .num (.t 39) (.c (.d (.i .i64 1))),
 .mv 39 (.t 49),
 .kill [49]])))
def inodeText_m : Fn := ⟨2, [.t 4], false,
 .seq (.r [.bx 2 .node true (.t 0),
 .mv 4 (.c (.d (.s []))),
 .kill [0, 4]])
 (.seq (.r [.fa 9 (.t 2) 1,
 .ld 10 1 false (.t 9),
 .fa 11 (.t 2) 0,
 .ld 12 1 false (.t 11),
 .fa 13 (.t 2) 0,
 .ld 14 1 false (.t 13),
 .mv 15 (.t 1),
 .bin 16 .neq .num (.t 14) (.t 15),
 .kill [1, 9, 11, 13, 14, 15],
 .bd 17 [.d (.i .i64 0), .d (.s []), .d (.s []), .d (.b false), .d (.s [])] [(0, 1, (.c (.d (.i .i64 1)))), (1, 1, (.t 10)), (2, 1, (.t 12)), (3, 1, (.t 16))],
 .al 5 TPiece false,
 .st 5 (.t 5) (.t 17),
 .keep [5, 2]])
 (.seq (.seq (.r [.fa 18 (.t 2) 2,
 .ld 19 1 false (.t 18),
 .bin 20 .eql .num (.t 19) (.c (.d (.s []))),
 .mv 21 (.t 20),
 .gd 21 true (some 22) (.fa 22 (.t 2) 3),
 .gd 21 true (some 23) (.ld 23 1 false (.t 22)),
 .gd 21 true (some 24) (.len 24 (.t 23)),
 .kill [18, 19, 20, 22, 23],
 .gd 21 true (some 25) (.bin 25 .eql .num (.t 24) (.c (.d (.i .i64 0)))),
 .pick 26 (.t 21) (.t 25) (.c (.d (.b false))),
 .keep [26, 5, 2]])
 (.cond (.t 26)
 (.pre [.keep [5], .drop [66]] (.seq (.r [.fa 27 (.t 5) 0,
 .st 1 (.t 27) (.c (.d (.i .i64 3))),
 .kill [27]])
 (.seq (.r [.ld 28 5 true (.t 5),
 .call 29 true [] (.c (.clo iPieceText [])) [(.t 28)],
 .mv 4 (.t 29),
 .keep [4],
 .drop [69]])
 (.ret))))
 (.pre [.kill [26]] (.skip))))
 (.seq (.post (.r [.ld 30 5 true (.t 5),
 .call 31 true [] (.c (.clo iPieceText [])) [(.t 30)],
 .fa 32 (.t 2) 2,
 .ld 33 1 false (.t 32),
 .call 34 true [] (.c (.clo iEscape [])) [(.t 33)],
 .bin 35 .add .num (.t 31) (.t 34),
 .mv 6 (.t 35)]) [.keep [6, 2], .drop [69]])
 (.seq (.seq (.r [.fa 36 (.t 2) 3,
 .ld 37 1 false (.t 36),
 .len 38 (.t 37),
 .mv 39 (.c (.d (.i .i64 0))),
 .kill [36]])
 (.blk 0 (.pre [.keep [39, 38, 37, 6, 2]] (.loop inodeText_l0))))
 (.seq (.r [.mv 50 (.t 6),
 .bin 51 .add .num (.t 50) (.c (.d (.s [60, 47]))),
 .fa 52 (.t 2) 1,
 .ld 53 1 false (.t 52),
 .bin 54 .add .num (.t 51) (.t 53),
 .kill [2, 6, 50, 51, 52, 53],
 .bin 55 .add .num (.t 54) (.c (.d (.s [62]))),
 .mv 4 (.t 55),
 .keep [4],
 .drop [66]])
 (.ret))))))⟩
def idavNode_m : Fn := ⟨2, [.cell 4 4 true], false,
 .seq (.r [.al 4 .node false])
 (.seq (.r [.mv 5 (.t 0),
 .mv 6 (.t 1),
 .bd 7 [.d (.s []), .d (.s []), .d (.s []), .nil .node] [(0, 1, (.c (.d (.s [68, 65, 86, 58])))), (1, 1, (.t 5)), (3, 1, (.t 6))],
 .st 4 (.t 4) (.t 7),
 .keep [4]])
 (.ret))⟩
def itextNode_m : Fn := ⟨2, [.cell 4 4 true], false,
 .seq (.r [.al 4 .node false])
 (.seq (.r [.mv 5 (.t 0),
 .mv 6 (.t 1),
 .bd 7 [.d (.s []), .d (.s []), .d (.s []), .nil .node] [(0, 1, (.c (.d (.s [68, 65, 86, 58])))), (1, 1, (.t 5)), (2, 1, (.t 6))],
 .st 4 (.t 4) (.t 7),
 .keep [4]])
 (.ret))⟩
/-- live: [3, 9, 10, 11]; objects: [67] -/
def iPathText_l0 : C :=
 .seq (.r [.bin 12 .lss .num (.t 11) (.t 10)])
 (.seq (.cond (.t 12)
 (.pre [.kill [12]] (.skip))
 (.pre [.keep [3]] (.ex 0)))
 (.seq (.blk 1 (.seq (.r [.ia 13 1 (.t 9) (.t 11),
 .ld 14 1 false (.t 13),
 .mv 5 (.t 14),
 .kill [13, 14]])
 (.r [.mv 15 (.t 3),
 .mv 16 (.t 5),
 .call 17 true [] (.c (.clo iQuote [])) [(.t 16)],
 .bs 18 .str false 1 [.d (.s [])] [(0, (.t 17))],
 .app 19 .str false 16 (.t 15) (.t 18),
 .kill [3, 5, 15, 16, 17, 18],
 .mv 3 (.t 19),
 .ren 83 67,
 .keep [11, 10, 9, 3],
 .drop [82, 83]])))
 (.r [.bin 20 .add .num (.t 11) (.c (.d (.i .i64 1))),
 .mv 11 (.t 20),
 .kill [20]])))
def iPathText_m : Fn := ⟨1, [.t 2], false,
 .seq (.r [.mv 2 (.c (.d (.s []))),
 .kill [2]])
 (.seq (.seq (.r [.mv 6 (.t 0),
 .call 7 true [] (.c (.clo iPathOk [])) [(.t 6)],
 .not 8 (.t 7),
 .kill [6, 7]])
 (.cond (.t 8)
 (.pre [.keep []] (.seq (.r [.mv 2 (.c (.d (.s [])))])
 (.ret)))
 (.pre [.kill [8]] (.skip))))
 (.seq (.r [.mv 3 (.c (.nil .str)),
 .opn 3 3 false])
 (.seq (.seq (.r [.mv 9 (.t 0),
 .len 10 (.t 9),
 .mv 11 (.c (.d (.i .i64 0))),
 .kill [0]])
 (.blk 0 (.pre [.keep [11, 10, 9, 3]] (.loop iPathText_l0))))
 (.seq (.r [.mv 21 (.t 3),
 .call 22 true [] (.c (.clo x_strings_Join [])) [(.t 21), (.c (.d (.s [47])))],
 .bin 23 .add .num (.c (.d (.s [47]))) (.t 22),
 .mv 2 (.t 23),
 .keep [2],
 .drop [67]])
 (.ret)))))⟩
def iitem_m : Fn := ⟨2, [.cell 4 2 true], false,
 .seq (.r [.bx 2 TSrv true (.t 0),
 .al 4 TItem false,
 .kill [0]])
 (.seq (.r [.ld 8 6 true (.t 2),
 .mv 9 (.t 1),
 .call 10 true [] (.c (.clo iTagAt [])) [(.t 8), (.t 9)],
 .mv 7 (.t 10),
 .ext 11 (.t 7) 0,
 .ext 12 (.t 7) 1,
 .kill [2, 7, 8, 9, 10],
 .mv 5 (.t 11),
 .mv 6 (.t 12),
 .keep [5, 4, 1],
 .drop [66]])
 (.seq (.r [.mv 13 (.t 1),
 .call 14 false [] (.c (.clo icopyPath [])) [(.t 13)],
 .mv 15 (.t 5),
 .bd 16 [.nil .str, .d (.s [])] [(0, 1, (.t 14)), (1, 1, (.t 15))],
 .kill [1, 5, 13, 14, 15],
 .st 2 (.t 4) (.t 16),
 .keep [4],
 .drop [15064]])
 (.ret)))⟩
/-- live: [1, 5, 8, 9, 10]; objects: [69] -/
def iKidsOf_l0 : C :=
 .seq (.r [.bin 11 .lss .num (.t 10) (.t 9)])
 (.seq (.cond (.t 11)
 (.pre [.kill [11]] (.skip))
 (.pre [.keep [5]] (.ex 0)))
 (.seq (.blk 1 (.seq (.r [.ia 12 5 (.t 8) (.t 10),
 .ld 13 5 true (.t 12),
 .al 7 TRes true,
 .st 5 (.t 7) (.t 13),
 .kill [12, 13]])
 (.seq (.r [.fa 14 (.t 7) 0,
 .ld 15 1 false (.t 14),
 .len 16 (.t 15),
 .mv 17 (.t 1),
 .len 18 (.t 17),
 .bin 19 .add .num (.t 18) (.c (.d (.i .i64 1))),
 .bin 20 .eql .num (.t 16) (.t 19),
 .kill [14, 15, 16, 17, 18, 19],
 .mv 21 (.t 20),
 .gd 21 true (some 22) (.fa 22 (.t 7) 0),
 .gd 21 true (some 23) (.ld 23 1 false (.t 22)),
 .gd 21 true (some 24) (.mv 24 (.t 1)),
 .gd 21 true (some 25) (.call 25 true [] (.c (.clo iUnder [])) [(.t 23), (.t 24)]),
 .pick 26 (.t 21) (.t 25) (.c (.d (.b false))),
 .keep [26, 10, 9, 8, 7, 5, 1]])
 (.cond (.t 26)
 (.pre [.kill [26]] (.r [.mv 27 (.t 5),
 .fa 28 (.t 7) 0,
 .ld 29 1 false (.t 28),
 .call 30 false [] (.c (.clo icopyPath [])) [(.t 29)],
 .bs 31 (.sl .str) false 1 [.nil .str] [(0, (.t 30))],
 .kill [5, 7, 28, 29, 30],
 .app 32 (.sl .str) false 24 (.t 27) (.t 31),
 .mv 5 (.t 32),
 .ren 96 69,
 .keep [10, 9, 8, 5, 1],
 .drop [71, 95, 96, 31064]]))
 (.pre [.kill [7, 26], .drop [71]] (.skip))))))
 (.r [.bin 33 .add .num (.t 10) (.c (.d (.i .i64 1))),
 .mv 10 (.t 33),
 .kill [33]])))
def iKidsOf_m : Fn := ⟨2, [.t 4], false,
 .seq (.r [.mv 4 (.c (.nil (.sl .str))),
 .opn 4 4 false,
 .kill [4],
 .drop [68]])
 (.seq (.r [.mv 5 (.c (.nil (.sl .str))),
 .opn 5 5 false])
 (.seq (.seq (.r [.mv 8 (.t 0),
 .len 9 (.t 8),
 .mv 10 (.c (.d (.i .i64 0))),
 .kill [0]])
 (.blk 0 (.pre [.keep [10, 9, 8, 5, 1]] (.loop iKidsOf_l0))))
 (.seq (.r [.mv 34 (.t 5),
 .mv 4 (.t 34),
 .ren 69 68,
 .keep [4],
 .drop [69]])
 (.ret))))⟩
/-- live: [1, 12, 13, 14]; objects: [] -/
def iopForm_l0 : C :=
 .seq (.r [.bin 15 .lss .num (.t 14) (.t 13)])
 (.seq (.cond (.t 15)
 (.pre [.kill [15]] (.skip))
 (.pre [.keep [1]] (.ex 0)))
 (.seq (.blk 1 (.seq (.r [.ia 16 1 (.t 12) (.t 14),
 .ld 17 1 false (.t 16),
 .mv 8 (.t 17),
 .kill [16, 17]])
 (.seq (.r [.mv 18 (.t 8),
 .call 19 true [] (.c (.clo iPathOk [])) [(.t 18)],
 .not 20 (.t 19),
 .kill [8, 18, 19]])
 (.cond (.t 20)
 (.pre [.keep []] (.seq (.r [.mv 6 (.c (.d (.i .i64 400)))])
 (.ret)))
 (.pre [.kill [20]] (.skip))))))
 (.r [.bin 21 .add .num (.t 14) (.c (.d (.i .i64 1))),
 .mv 14 (.t 21),
 .kill [21]])))
def iopForm_m : Fn := ⟨3, [.t 6], false,
 .seq (.r [.mv 6 (.c (.d (.i .i64 0))),
 .kill [6]])
 (.seq (.seq (.r [.mv 9 (.t 0),
 .call 10 true [] (.c (.clo iTreeOk [])) [(.t 9)],
 .not 11 (.t 10),
 .kill [0, 9, 10]])
 (.cond (.t 11)
 (.pre [.keep []] (.seq (.r [.mv 6 (.c (.d (.i .i64 500)))])
 (.ret)))
 (.pre [.kill [11]] (.skip))))
 (.seq (.seq (.r [.mv 12 (.t 2),
 .len 13 (.t 12),
 .mv 14 (.c (.d (.i .i64 0))),
 .kill [2]])
 (.blk 0 (.pre [.keep [14, 13, 12, 1]] (.loop iopForm_l0))))
 (.seq (.seq (.r [.mv 22 (.t 1),
 .call 23 true [] (.c (.clo iin [])) [(.t 22), (.c (.d (.i .i64 0))), (.c (.d (.i .i64 99999)))],
 .not 24 (.t 23),
 .keep [24]])
 (.cond (.t 24)
 (.pre [.keep []] (.seq (.r [.mv 6 (.c (.d (.i .i64 507)))])
 (.ret)))
 (.pre [.keep []] (.skip))))
 (.seq (.r [.mv 6 (.c (.d (.i .i64 0)))])
 (.ret)))))⟩
/-- live: [0, 3, 5]; objects: [67] -/
def iwithRes_l0 : C :=
 .seq (.seq (.post (.r [.mv 6 (.t 5),
 .mv 7 (.t 0),
 .len 8 (.t 7),
 .bin 9 .lss .num (.t 6) (.t 8),
 .mv 10 (.t 9),
 .gd 10 true (some 11) (.mv 11 (.t 0)),
 .gd 10 true (some 12) (.mv 12 (.t 5)),
 .gd 10 true (some 13) (.ia 13 5 (.t 11) (.t 12)),
 .gd 10 true (some 14) (.fa 14 (.t 13) 0),
 .gd 10 true (some 15) (.ld 15 1 false (.t 14)),
 .gd 10 true (some 16) (.fa 16 (.t 3) 0),
 .gd 10 true (some 17) (.ld 17 1 false (.t 16)),
 .gd 10 true (some 18) (.call 18 true [] (.c (.clo iLessPath [])) [(.t 15), (.t 17)]),
 .pick 19 (.t 10) (.t 18) (.c (.d (.b false)))]) [.keep [19, 5, 3, 0]])
 (.cond (.t 19)
 (.pre [.kill [19]] (.skip))
 (.pre [.kill [19]] (.ex 0))))
 (.blk 1 (.r [.mv 20 (.t 5),
 .bin 21 .add .num (.t 20) (.c (.d (.i .i64 1))),
 .mv 5 (.t 21),
 .kill [20, 21]]))
def iwithRes_m : Fn := ⟨2, [.t 4], true,
 .seq (.r [.bx 3 TRes true (.t 1),
 .mv 4 (.c (.nil TRes)),
 .frz 4,
 .kill [1, 4]])
 (.seq (.r [.mv 5 (.c (.d (.i .i64 0)))])
 (.seq (.blk 0 (.pre [.keep [5, 3, 0]] (.loop iwithRes_l0)))
 (.seq (.post (.r [.an [91] [] [] [] (.mv 22 (.t 0)),
 .an [91] [] [] [] (.mv 23 (.t 5)),
 .an [91] [] [] [] (.slc 24 5 (.t 22) none (some (.t 23))),
 .an [91] [] [89] [] (.app 25 TRes true 80 (.c (.nil TRes)) (.t 24)),
 .an [89] [] [] [] (.ld 26 5 true (.t 3)),
 .an [89] [] [91] [] (.bs 27 TRes true 1 [.nil .str, .d (.b false), .d (.s []), .d (.i .i64 0), .nil TProp] [(0, (.t 26))]),
 .an [] [] [89, 92] [91] (.app 28 TRes true 80 (.t 25) (.t 27)),
 .an [89, 91, 92] [91] [] [] (.mv 29 (.t 0)),
 .an [89, 91, 92] [91] [] [] (.mv 30 (.t 5)),
 .an [89, 91, 92] [91] [] [] (.slc 31 5 (.t 29) (some (.t 30)) none),
 .an [] [] [92, 96] [] (.app 32 TRes true 80 (.t 28) (.t 31)),
 .mv 4 (.t 32)]) [.frz 4, .keep [4], .drop [67, 89, 91, 92, 96]])
 (.ret))))⟩
/-- live: [1, 5, 8, 9, 10]; objects: [69] -/
def iwithout_l0 : C :=
 .seq (.r [.bin 11 .lss .num (.t 10) (.t 9)])
 (.seq (.cond (.t 11)
 (.pre [.kill [11]] (.skip))
 (.pre [.keep [5]] (.ex 0)))
 (.seq (.blk 1 (.seq (.r [.ia 12 5 (.t 8) (.t 10),
 .ld 13 5 true (.t 12),
 .al 7 TRes true,
 .st 5 (.t 7) (.t 13),
 .kill [12, 13]])
 (.seq (.r [.fa 14 (.t 7) 0,
 .ld 15 1 false (.t 14),
 .mv 16 (.t 1),
 .call 17 true [] (.c (.clo iisAt [])) [(.t 15), (.t 16)],
 .not 18 (.t 17),
 .kill [14, 15, 16, 17]])
 (.cond (.t 18)
 (.pre [.kill [18]] (.r [.mv 19 (.t 5),
 .ld 20 5 true (.t 7),
 .call 21 false [] (.c (.clo icopyRes [])) [(.t 20)],
 .bs 22 TRes false 1 [.nil .str, .d (.b false), .d (.s []), .d (.i .i64 0), .nil TProp] [(0, (.t 21))],
 .app 23 TRes false 80 (.t 19) (.t 22),
 .kill [5, 7, 19, 20, 21, 22],
 .mv 5 (.t 23),
 .ren 87 69,
 .keep [10, 9, 8, 5, 1],
 .drop [71, 86, 87, 22064, 22068]]))
 (.pre [.kill [7, 18], .drop [71]] (.skip))))))
 (.r [.bin 24 .add .num (.t 10) (.c (.d (.i .i64 1))),
 .mv 10 (.t 24),
 .kill [24]])))
def iwithout_m : Fn := ⟨2, [.t 4], false,
 .seq (.r [.mv 4 (.c (.nil TRes)),
 .opn 4 4 false,
 .kill [4],
 .drop [68]])
 (.seq (.r [.mv 5 (.c (.nil TRes)),
 .opn 5 5 false])
 (.seq (.seq (.r [.mv 8 (.t 0),
 .len 9 (.t 8),
 .mv 10 (.c (.d (.i .i64 0))),
 .kill [0]])
 (.blk 0 (.pre [.keep [10, 9, 8, 5, 1]] (.loop iwithout_l0))))
 (.seq (.r [.mv 25 (.t 5),
 .mv 4 (.t 25),
 .ren 69 68,
 .keep [4],
 .drop [69]])
 (.ret))))⟩
/-- live: [1, 2, 4, 12, 13, 66, 67, 68]; objects: [67064] -/
def icopied_l0 : C :=
 .seq (.r [.bin 69 .lss .num (.t 68) (.t 67)])
 (.seq (.cond (.t 69)
 (.pre [.kill [69]] (.skip))
 (.pre [.keep [13, 12], .drop [67064]] (.ex 1)))
 (.seq (.blk 2 (.seq (.r [.ia 70 5 (.t 66) (.t 68),
 .ldt 71 5 true (.t 70),
 .al 15 TRes false,
 .st 5 (.t 15) (.t 71),
 .kill [70, 71],
 .drop [72064, 72068]])
 (.seq (.post (.r [.mv 72 (.t 2),
 .an [] [] [74064] [] (.call 73 false [] (.c (.clo icopyPath [])) [(.t 72)]),
 .an [74064] [] [] [] (.fa 74 (.t 15) 0),
 .an [74064] [] [] [] (.ld 75 1 false (.t 74)),
 .an [74064] [] [] [] (.mv 76 (.t 1)),
 .an [74064] [] [] [] (.len 77 (.t 76)),
 .an [74064] [] [] [] (.slc 78 1 (.t 75) (some (.t 77)) none),
 .an [] [] [143, 74064] [] (.app 79 .str false 16 (.t 73) (.t 78)),
 .fa 80 (.t 15) 0,
 .an [] [] [143] [79] (.st 1 (.t 80) (.t 79))]) [.kill [72, 73, 74, 75, 76, 77, 78, 79, 80], .drop [143, 74064]])
 (.seq (.r [.mv 81 (.t 4),
 .fa 82 (.t 15) 3,
 .st 1 (.t 82) (.t 81),
 .kill [81, 82]])
 (.seq (.seq (.r [.fa 83 (.t 15) 0,
 .ld 84 1 false (.t 83),
 .call 85 true [] (.c (.clo iPathOk [])) [(.t 84)],
 .not 86 (.t 85),
 .kill [83, 84, 85]])
 (.cond (.t 86)
 (.pre [.keep [], .drop [79, 67064]] (.seq (.r [.mv 10 (.c (.nil TRes)),
 .frz 10,
 .mv 11 (.c (.d (.i .i64 409)))])
 (.ret)))
 (.pre [.kill [86]] (.skip))))
 (.r [.mv 87 (.t 13),
 .frz 15,
 .ld 88 5 true (.t 15),
 .call 89 true [] (.c (.clo iwithRes [])) [(.t 87), (.t 88)],
 .mv 13 (.t 89),
 .frz 13,
 .kill [15, 87, 88, 89],
 .drop [79]]))))))
 (.r [.bin 90 .add .num (.t 68) (.c (.d (.i .i64 1))),
 .mv 68 (.t 90),
 .kill [90]])))
def icopied_m : Fn := ⟨5, [.t 10, .t 11], true,
 .seq (.r [.mv 10 (.c (.nil TRes)),
 .frz 10,
 .mv 11 (.c (.d (.i .i64 0))),
 .kill [10, 11]])
 (.seq (.r [.mv 16 (.t 0),
 .mv 17 (.t 2),
 .call 18 true [] (.c (.clo iFindRes [])) [(.t 16), (.t 17)],
 .bin 19 .geq .num (.t 18) (.c (.d (.i .i64 0))),
 .mv 12 (.t 19),
 .kill [16, 17, 18, 19]])
 (.seq (.blk 0 (.seq (.r [.mv 21 (.t 1),
 .len 22 (.t 21),
 .bin 23 .gtr .num (.t 22) (.c (.d (.i .i64 0))),
 .mv 24 (.t 23),
 .gd 24 true (some 25) (.mv 25 (.t 0)),
 .gd 24 true (some 26) (.mv 26 (.t 1)),
 .gd 24 true (some 27) (.call 27 true [] (.c (.clo iFindRes [])) [(.t 25), (.t 26)]),
 .kill [21, 22, 23, 25, 26],
 .gd 24 true (some 28) (.bin 28 .lss .num (.t 27) (.c (.d (.i .i64 0)))),
 .pick 29 (.t 24) (.t 28) (.c (.d (.b false))),
 .mv 20 (.t 29),
 .keep [20, 12, 4, 3, 2, 1, 0]])
 (.cond (.t 20)
 (.pre [.keep []] (.seq (.r [.mv 10 (.c (.nil TRes)),
 .frz 10,
 .mv 11 (.c (.d (.i .i64 404)))])
 (.ret)))
 (.pre [.kill [20]] (.seq (.r [.mv 31 (.t 1),
 .len 32 (.t 31),
 .bin 33 .eql .num (.t 32) (.c (.d (.i .i64 0))),
 .mv 34 (.t 33),
 .gd 34 false (some 35) (.mv 35 (.t 2)),
 .gd 34 false (some 36) (.len 36 (.t 35)),
 .gd 34 false (some 37) (.bin 37 .eql .num (.t 36) (.c (.d (.i .i64 0)))),
 .kill [31, 32, 33, 35, 36],
 .pick 38 (.t 34) (.c (.d (.b true))) (.t 37),
 .mv 39 (.t 38),
 .gd 39 false (some 40) (.mv 40 (.t 1)),
 .gd 39 false (some 41) (.mv 41 (.t 2)),
 .gd 39 false (some 42) (.call 42 true [] (.c (.clo iisAt [])) [(.t 40), (.t 41)]),
 .kill [34, 37, 38, 40, 41],
 .pick 43 (.t 39) (.c (.d (.b true))) (.t 42),
 .mv 44 (.t 43),
 .gd 44 false (some 45) (.mv 45 (.t 2)),
 .gd 44 false (some 46) (.mv 46 (.t 1)),
 .gd 44 false (some 47) (.call 47 true [] (.c (.clo iisAt [])) [(.t 45), (.t 46)]),
 .kill [39, 42, 43, 45, 46],
 .pick 48 (.t 44) (.c (.d (.b true))) (.t 47),
 .mv 30 (.t 48),
 .keep [30, 12, 4, 3, 2, 1, 0]])
 (.cond (.t 30)
 (.pre [.keep []] (.seq (.r [.mv 10 (.c (.nil TRes)),
 .frz 10,
 .mv 11 (.c (.d (.i .i64 403)))])
 (.ret)))
 (.pre [.kill [30]] (.seq (.r [.mv 50 (.t 12),
 .mv 51 (.t 50),
 .gd 51 true (some 52) (.mv 52 (.t 3)),
 .gd 51 true (some 53) (.not 53 (.t 52)),
 .pick 54 (.t 51) (.t 53) (.c (.d (.b false))),
 .kill [3, 50, 51, 52, 53],
 .mv 49 (.t 54),
 .kill [3, 50, 51, 52, 53, 54]])
 (.cond (.t 49)
 (.pre [.keep []] (.seq (.r [.mv 10 (.c (.nil TRes)),
 .frz 10,
 .mv 11 (.c (.d (.i .i64 412)))])
 (.ret)))
 (.pre [.kill [49]] (.seq (.r [.mv 56 (.t 0),
 .mv 57 (.t 2),
 .call 58 true [] (.c (.clo iAbove [])) [(.t 57)],
 .call 59 true [] (.c (.clo iIsColl [])) [(.t 56), (.t 58)],
 .not 60 (.t 59),
 .mv 55 (.t 60),
 .kill [56, 57, 58, 59, 60]])
 (.cond (.t 55)
 (.pre [.keep []] (.seq (.r [.mv 10 (.c (.nil TRes)),
 .frz 10,
 .mv 11 (.c (.d (.i .i64 409)))])
 (.ret)))
 (.pre [.kill [55]] (.skip))))))))))))))
 (.seq (.r [.mv 61 (.t 0),
 .mv 62 (.t 2),
 .call 63 true [] (.c (.clo iwithout [])) [(.t 61), (.t 62)],
 .mv 13 (.t 63),
 .frz 13,
 .kill [61, 62, 63]])
 (.seq (.seq (.r [.mv 64 (.t 0),
 .mv 65 (.t 1),
 .call 66 false [] (.c (.clo iDeepOf [])) [(.t 64), (.t 65)],
 .len 67 (.t 66),
 .mv 68 (.c (.d (.i .i64 0))),
 .kill [0, 64, 65]])
 (.blk 1 (.pre [.keep [68, 67, 66, 13, 12, 4, 2, 1]] (.loop icopied_l0))))
 (.seq (.seq (.r [.mv 91 (.t 12),
 .kill [12]])
 (.cond (.t 91)
 (.pre [.kill [91]] (.seq (.r [.mv 92 (.t 13),
 .mv 10 (.t 92),
 .frz 10,
 .mv 11 (.c (.d (.i .i64 204))),
 .kill [13, 92]])
 (.ret)))
 (.pre [.kill [91]] (.skip))))
 (.seq (.r [.mv 93 (.t 13),
 .mv 10 (.t 93),
 .frz 10,
 .mv 11 (.c (.d (.i .i64 201))),
 .kill [13, 93]])
 (.ret)))))))⟩
def iSrv_dropUnder_1_m : Fn := ⟨3, [.t 4], false,
 .seq (.r [.bx 3 TLock true (.t 0),
 .mv 4 (.c (.d (.b false))),
 .kill [0, 4]])
 (.seq (.r [.fa 5 (.t 3) 1,
 .ld 6 1 false (.t 5),
 .ld 7 1 false (.t 1),
 .call 8 true [] (.c (.clo iUnder [])) [(.t 6), (.t 7)],
 .not 9 (.t 8),
 .mv 10 (.t 9),
 .kill [5, 6, 7, 8, 9],
 .gd 10 true (some 11) (.ld 11 1 false (.t 2)),
 .gd 10 true (some 12) (.mv 12 (.t 11)),
 .gd 12 true (some 13) (.fa 13 (.t 3) 1),
 .gd 12 true (some 14) (.ld 14 1 false (.t 13)),
 .gd 12 true (some 15) (.ld 15 1 false (.t 1)),
 .kill [1, 2, 3, 11, 13],
 .gd 12 true (some 16) (.call 16 true [] (.c (.clo iSamePath [])) [(.t 14), (.t 15)]),
 .gd 10 true (some 17) (.pick 17 (.t 12) (.t 16) (.c (.d (.b false)))),
 .gd 10 true (some 18) (.not 18 (.t 17)),
 .kill [12, 14, 15, 16, 17],
 .pick 19 (.t 10) (.t 18) (.c (.d (.b false))),
 .mv 4 (.t 19),
 .keep [4],
 .drop [67]])
 (.ret))⟩
def itagAt_m : Fn := ⟨2, [.t 4, .t 5, .t 6], false,
 .seq (.r [.mv 4 (.c (.d (.s []))),
 .mv 5 (.c (.d (.s []))),
 .mv 6 (.c (.d (.b false))),
 .keep [1, 0]])
 (.seq (.r [.mv 13 (.t 0),
 .call 14 true [] (.c (.clo x_strings_CutPrefix [])) [(.t 13), (.c (.d (.s [34])))],
 .mv 12 (.t 14),
 .ext 15 (.t 12) 0,
 .ext 16 (.t 12) 1,
 .mv 7 (.t 15),
 .mv 8 (.t 16),
 .keep [8, 7, 1, 0]])
 (.seq (.r [.mv 18 (.t 7),
 .call 19 true [] (.c (.clo x_strings_Cut [])) [(.t 18), (.c (.d (.s [34])))],
 .mv 17 (.t 19),
 .ext 20 (.t 17) 0,
 .ext 21 (.t 17) 1,
 .ext 22 (.t 17) 2,
 .mv 9 (.t 20),
 .kill [7, 17, 18, 19, 20],
 .mv 10 (.t 21),
 .mv 11 (.t 22),
 .keep [11, 10, 9, 8, 1, 0]])
 (.seq (.seq (.r [.mv 23 (.t 8),
 .not 24 (.t 23),
 .mv 25 (.t 24),
 .gd 25 false (some 26) (.mv 26 (.t 11)),
 .gd 25 false (some 27) (.not 27 (.t 26)),
 .kill [8, 11, 23, 24, 26],
 .pick 28 (.t 25) (.c (.d (.b true))) (.t 27),
 .mv 29 (.t 28),
 .gd 29 false (some 30) (.mv 30 (.t 9)),
 .gd 29 false (some 31) (.lns 31 (.t 30)),
 .gd 29 false (some 32) (.mv 32 (.t 1)),
 .kill [1, 25, 27, 28, 30],
 .gd 29 false (some 33) (.call 33 true [] (.c (.clo iin [])) [(.t 31), (.t 32), (.c (.d (.i .i64 10)))]),
 .gd 29 false (some 34) (.not 34 (.t 33)),
 .pick 35 (.t 29) (.c (.d (.b true))) (.t 34),
 .kill [29, 31, 32, 33, 34],
 .mv 36 (.t 35),
 .gd 36 false (some 37) (.mv 37 (.t 9)),
 .gd 36 false (some 38) (.call 38 true [] (.c (.clo iPlain [])) [(.t 37)]),
 .gd 36 false (some 39) (.not 39 (.t 38)),
 .pick 40 (.t 36) (.c (.d (.b true))) (.t 39),
 .keep [40, 10, 9, 0]])
 (.cond (.t 40)
 (.pre [.keep []] (.seq (.r [.mv 4 (.c (.d (.s []))),
 .mv 5 (.c (.d (.s []))),
 .mv 6 (.c (.d (.b false)))])
 (.ret)))
 (.pre [.kill [40]] (.skip))))
 (.seq (.r [.mv 41 (.t 0),
 .mv 42 (.t 9),
 .lns 43 (.t 42),
 .bin 44 .add .num (.t 43) (.c (.d (.i .i64 2))),
 .slc 45 0 (.t 41) none (some (.t 44)),
 .kill [0, 9, 41, 42, 43, 44],
 .mv 46 (.t 10),
 .mv 4 (.t 45),
 .mv 5 (.t 46),
 .mv 6 (.c (.d (.b true))),
 .keep [6, 5, 4]])
 (.ret)))))⟩
/-- live: [0, 4]; objects: [68] -/
def iParseTags_l0 : C :=
 .blk 1 (.seq (.r [.mv 12 (.t 0),
 .call 13 true [] (.c (.clo iTrim [])) [(.t 12)],
 .call 14 true [] (.c (.clo itagAt [])) [(.t 13), (.c (.d (.i .i64 0)))],
 .mv 11 (.t 14),
 .ext 15 (.t 11) 0,
 .ext 16 (.t 11) 1,
 .ext 17 (.t 11) 2,
 .kill [0, 11, 12, 13, 14],
 .mv 5 (.t 15),
 .mv 6 (.t 16),
 .mv 7 (.t 17),
 .keep [7, 6, 5, 4]])
 (.seq (.seq (.r [.mv 18 (.t 7),
 .not 19 (.t 18),
 .mv 20 (.t 19),
 .gd 20 false (some 21) (.mv 21 (.t 4)),
 .gd 20 false (some 22) (.len 22 (.t 21)),
 .gd 20 false (some 23) (.bin 23 .geq .num (.t 22) (.c (.d (.i .i64 5)))),
 .kill [7, 18, 19, 21, 22],
 .pick 24 (.t 20) (.c (.d (.b true))) (.t 23),
 .keep [24, 6, 5, 4]])
 (.cond (.t 24)
 (.pre [.keep [], .drop [68]] (.seq (.r [.mv 2 (.c (.nil .str)),
 .opn 2 2 false,
 .mv 3 (.c (.d (.b false)))])
 (.ret)))
 (.pre [.kill [24]] (.skip))))
 (.seq (.r [.mv 25 (.t 4),
 .mv 26 (.t 5),
 .bs 27 .str false 1 [.d (.s [])] [(0, (.t 26))],
 .app 28 .str false 16 (.t 25) (.t 27),
 .kill [4, 5, 25, 26, 27],
 .mv 4 (.t 28),
 .ren 92 68,
 .keep [6, 4],
 .drop [91, 92]])
 (.seq (.r [.mv 29 (.t 6),
 .call 30 true [] (.c (.clo iTrim [])) [(.t 29)],
 .mv 6 (.t 30),
 .kill [29, 30]])
 (.seq (.seq (.r [.mv 31 (.t 6),
 .bin 32 .eql .num (.t 31) (.c (.d (.s []))),
 .kill [31]])
 (.cond (.t 32)
 (.pre [.keep [4]] (.seq (.r [.mv 33 (.t 4),
 .mv 2 (.t 33),
 .ren 68 66,
 .mv 3 (.c (.d (.b true))),
 .kill [4, 33],
 .drop [68]])
 (.ret)))
 (.pre [.kill [32]] (.skip))))
 (.seq (.seq (.r [.mv 34 (.t 6),
 .ix 35 (.t 34) (.c (.d (.i .i64 0))),
 .bin 36 .neq .num (.t 35) (.c (.d (.u 44))),
 .kill [34, 35]])
 (.cond (.t 36)
 (.pre [.keep [], .drop [68]] (.seq (.r [.mv 2 (.c (.nil .str)),
 .opn 2 2 false,
 .mv 3 (.c (.d (.b false)))])
 (.ret)))
 (.pre [.kill [36]] (.skip))))
 (.r [.mv 37 (.t 6),
 .slc 38 0 (.t 37) (some (.c (.d (.i .i64 1)))) none,
 .mv 0 (.t 38),
 .keep [4, 0]])))))))
def iParseTags_m : Fn := ⟨1, [.t 2, .t 3], false,
 .seq (.r [.mv 2 (.c (.nil .str)),
 .opn 2 2 false,
 .mv 3 (.c (.d (.b false))),
 .keep [0],
 .drop [66]])
 (.seq (.seq (.r [.mv 8 (.t 0),
 .bin 9 .eql .num (.t 8) (.c (.d (.s [42]))),
 .kill [8]])
 (.cond (.t 9)
 (.pre [.keep []] (.seq (.r [.bs 10 .str false 1 [.d (.s [])] [(0, (.c (.d (.s [42]))))],
 .mv 2 (.t 10),
 .ren 74 66,
 .mv 3 (.c (.d (.b true))),
 .kill [10],
 .drop [74]])
 (.ret)))
 (.pre [.kill [9]] (.skip))))
 (.seq (.r [.mv 4 (.c (.nil .str)),
 .opn 4 4 false])
 (.blk 0 (.pre [.keep [4, 0]] (.loop iParseTags_l0)))))⟩
/-- live: [1, 2, 3, 9, 10, 14, 15, 16]; objects: [] -/
def iMayTurn_l0 : C :=
 .seq (.r [.bin 17 .lss .num (.t 16) (.t 15)])
 (.seq (.cond (.t 17)
 (.pre [.kill [17]] (.skip))
 (.pre [.keep [10, 9]] (.ex 0)))
 (.seq (.blk 1 (.seq (.r [.ia 18 5 (.t 14) (.t 16),
 .ld 19 5 true (.t 18),
 .al 12 TLock true,
 .st 5 (.t 12) (.t 19),
 .kill [18, 19]])
 (.seq (.seq (.r [.ld 20 5 true (.t 12),
 .mv 21 (.t 1),
 .call 22 true [] (.c (.clo iCovers [])) [(.t 20), (.t 21)],
 .not 23 (.t 22),
 .mv 24 (.t 23),
 .gd 24 true (some 25) (.mv 25 (.t 2)),
 .gd 24 true (some 26) (.mv 26 (.t 25)),
 .kill [20, 21, 22, 23, 25],
 .gd 26 true (some 27) (.fa 27 (.t 12) 1),
 .gd 26 true (some 28) (.ld 28 1 false (.t 27)),
 .gd 26 true (some 29) (.mv 29 (.t 1)),
 .gd 26 true (some 30) (.call 30 true [] (.c (.clo iUnder [])) [(.t 28), (.t 29)]),
 .gd 24 true (some 31) (.pick 31 (.t 26) (.t 30) (.c (.d (.b false)))),
 .kill [26, 27, 28, 29, 30],
 .gd 24 true (some 32) (.not 32 (.t 31)),
 .pick 33 (.t 24) (.t 32) (.c (.d (.b false))),
 .keep [33, 16, 15, 14, 12, 10, 9, 3, 2, 1]])
 (.cond (.t 33)
 (.pre [.kill [12, 33], .drop [76]] (.ex 1))
 (.pre [.kill [33]] (.skip))))
 (.seq (.r [.mv 34 (.t 3),
 .fa 35 (.t 12) 0,
 .ld 36 1 false (.t 35),
 .call 37 true [] (.c (.clo ihasInt [])) [(.t 34), (.t 36)],
 .mv 13 (.t 37),
 .kill [34, 35, 36, 37]])
 (.seq (.seq (.r [.fa 38 (.t 12) 3,
 .ld 39 1 false (.t 38),
 .not 40 (.t 39),
 .mv 41 (.t 40),
 .gd 41 true (some 42) (.mv 42 (.t 13)),
 .gd 41 true (some 43) (.not 43 (.t 42)),
 .pick 44 (.t 41) (.t 43) (.c (.d (.b false))),
 .kill [38, 39, 40, 41, 42, 43]])
 (.cond (.t 44)
 (.pre [.keep [], .drop [76]] (.seq (.r [.mv 8 (.c (.d (.b false)))])
 (.ret)))
 (.pre [.kill [44]] (.skip))))
 (.seq (.r [.mv 45 (.t 9),
 .mv 46 (.t 45),
 .gd 46 false (some 47) (.fa 47 (.t 12) 3),
 .gd 46 false (some 48) (.ld 48 1 false (.t 47)),
 .pick 49 (.t 46) (.c (.d (.b true))) (.t 48),
 .kill [9, 45, 46, 47, 48],
 .mv 9 (.t 49),
 .kill [45, 46, 47, 48, 49]])
 (.r [.mv 50 (.t 10),
 .mv 51 (.t 50),
 .gd 51 false (some 52) (.fa 52 (.t 12) 3),
 .gd 51 false (some 53) (.ld 53 1 false (.t 52)),
 .gd 51 false (some 54) (.mv 54 (.t 53)),
 .kill [10, 12, 50, 52, 53],
 .gd 54 true (some 55) (.mv 55 (.t 13)),
 .gd 51 false (some 56) (.pick 56 (.t 54) (.t 55) (.c (.d (.b false)))),
 .pick 57 (.t 51) (.c (.d (.b true))) (.t 56),
 .kill [13, 51, 54, 55, 56],
 .mv 10 (.t 57),
 .keep [16, 15, 14, 10, 9, 3, 2, 1],
 .drop [76]])))))))
 (.r [.bin 58 .add .num (.t 16) (.c (.d (.i .i64 1))),
 .mv 16 (.t 58),
 .kill [58]])))
def iMayTurn_m : Fn := ⟨4, [.t 8], false,
 .seq (.r [.mv 8 (.c (.d (.b false))),
 .kill [8]])
 (.seq (.r [.mv 9 (.c (.d (.b false))),
 .mv 10 (.c (.d (.b false)))])
 (.seq (.seq (.r [.mv 14 (.t 0),
 .len 15 (.t 14),
 .mv 16 (.c (.d (.i .i64 0))),
 .kill [0]])
 (.blk 0 (.pre [.keep [16, 15, 14, 10, 9, 3, 2, 1]] (.loop iMayTurn_l0))))
 (.seq (.r [.mv 59 (.t 9),
 .not 60 (.t 59),
 .mv 61 (.t 60),
 .gd 61 false (some 62) (.mv 62 (.t 10)),
 .pick 63 (.t 61) (.c (.d (.b true))) (.t 62),
 .kill [9, 10, 59, 60, 61, 62],
 .mv 8 (.t 63),
 .keep [8]])
 (.ret))))⟩
def imarkAt_m : Fn := ⟨1, [.cell 2 5 true, .t 3, .t 4], false,
 .seq (.r [.al 2 TPiece false,
 .mv 3 (.c (.d (.s []))),
 .mv 4 (.c (.d (.b false))),
 .kill [3, 4]])
 (.seq (.seq (.r [.mv 24 (.t 0),
 .call 25 true [] (.c (.clo x_strings_CutPrefix [])) [(.t 24), (.c (.d (.s [60, 47])))],
 .mv 23 (.t 25),
 .ext 26 (.t 23) 0,
 .ext 27 (.t 23) 1,
 .mv 5 (.t 26),
 .mv 6 (.t 27),
 .keep [6, 5, 2, 0]])
 (.seq (.r [.mv 28 (.t 6),
 .kill [6]])
 (.cond (.t 28)
 (.pre [.kill [0, 28]] (.seq (.r [.mv 30 (.t 5),
 .call 31 true [] (.c (.clo inameAt [])) [(.t 30)],
 .mv 29 (.t 31),
 .ext 32 (.t 29) 0,
 .ext 33 (.t 29) 1,
 .mv 7 (.t 32),
 .kill [5, 29, 30, 31, 32],
 .mv 8 (.t 33),
 .keep [8, 7, 2]])
 (.seq (.r [.mv 35 (.t 8),
 .call 36 true [] (.c (.clo x_strings_CutPrefix [])) [(.t 35), (.c (.d (.s [62])))],
 .mv 34 (.t 36),
 .ext 37 (.t 34) 0,
 .ext 38 (.t 34) 1,
 .mv 8 (.t 37),
 .mv 9 (.t 38),
 .keep [9, 8, 7, 2]])
 (.seq (.r [.mv 39 (.t 7),
 .bd 40 [.d (.i .i64 0), .d (.s []), .d (.s []), .d (.b false), .d (.s [])] [(0, 1, (.c (.d (.i .i64 2)))), (1, 1, (.t 39))],
 .mv 41 (.t 8),
 .mv 42 (.t 9),
 .mv 43 (.t 42),
 .gd 43 true (some 44) (.mv 44 (.t 7)),
 .kill [7, 8, 9, 39, 42],
 .gd 43 true (some 45) (.call 45 true [] (.c (.clo iSmallName [])) [(.t 44)]),
 .pick 46 (.t 43) (.t 45) (.c (.d (.b false))),
 .st 5 (.t 2) (.t 40),
 .mv 3 (.t 41),
 .kill [40, 41, 43, 44, 45],
 .mv 4 (.t 46),
 .keep [4, 3, 2]])
 (.ret)))))
 (.pre [.kill [5, 28]] (.skip)))))
 (.seq (.r [.bd 47 [.d (.i .i64 0), .d (.s []), .d (.s []), .d (.b false), .d (.s [])] [(0, 1, (.c (.d (.i .i64 1))))],
 .al 10 TPiece false,
 .st 5 (.t 10) (.t 47),
 .kill [47]])
 (.seq (.r [.mv 49 (.t 0),
 .slc 50 0 (.t 49) (some (.c (.d (.i .i64 1)))) none,
 .call 51 true [] (.c (.clo inameAt [])) [(.t 50)],
 .mv 48 (.t 51),
 .ext 52 (.t 48) 0,
 .ext 53 (.t 48) 1,
 .kill [0, 48, 49, 50, 51],
 .mv 11 (.t 52),
 .mv 12 (.t 53),
 .keep [12, 11, 10, 2]])
 (.seq (.r [.mv 54 (.t 11),
 .fa 55 (.t 10) 1,
 .st 1 (.t 55) (.t 54),
 .kill [54, 55]])
 (.seq (.seq (.r [.mv 57 (.t 12),
 .call 58 true [] (.c (.clo x_strings_CutPrefix [])) [(.t 57), (.c (.d (.s [32, 120, 109, 108, 110, 115, 61, 34])))],
 .mv 56 (.t 58),
 .ext 59 (.t 56) 0,
 .ext 60 (.t 56) 1,
 .mv 13 (.t 59),
 .mv 14 (.t 60),
 .kill [56, 57, 58, 59, 60]])
 (.seq (.r [.mv 61 (.t 14),
 .kill [14]])
 (.cond (.t 61)
 (.pre [.kill [12, 61]] (.seq (.r [.mv 63 (.t 13),
 .call 64 true [] (.c (.clo x_strings_Cut [])) [(.t 63), (.c (.d (.s [34])))],
 .mv 62 (.t 64),
 .ext 65 (.t 62) 0,
 .ext 66 (.t 62) 1,
 .ext 67 (.t 62) 2,
 .mv 15 (.t 65),
 .kill [13, 62, 63, 64, 65],
 .mv 16 (.t 66),
 .mv 17 (.t 67),
 .keep [17, 16, 15, 11, 10, 2]])
 (.seq (.r [.mv 69 (.t 15),
 .call 70 true [] (.c (.clo iUnescape [])) [(.t 69)],
 .mv 68 (.t 70),
 .ext 71 (.t 68) 0,
 .ext 72 (.t 68) 1,
 .mv 18 (.t 71),
 .kill [15, 68, 69, 70, 71],
 .mv 19 (.t 72),
 .kill [15, 68, 69, 70, 71, 72]])
 (.seq (.seq (.r [.mv 73 (.t 17),
 .not 74 (.t 73),
 .mv 75 (.t 74),
 .gd 75 false (some 76) (.mv 76 (.t 19)),
 .gd 75 false (some 77) (.not 77 (.t 76)),
 .kill [17, 19, 73, 74, 76],
 .pick 78 (.t 75) (.c (.d (.b true))) (.t 77),
 .mv 79 (.t 78),
 .gd 79 false (some 80) (.mv 80 (.t 18)),
 .gd 79 false (some 81) (.lns 81 (.t 80)),
 .gd 79 false (some 82) (.bin 82 .gtr .num (.t 81) (.c (.d (.i .i64 20)))),
 .kill [75, 77, 78, 80, 81],
 .pick 83 (.t 79) (.c (.d (.b true))) (.t 82),
 .keep [83, 18, 16, 11, 10, 2]])
 (.cond (.t 83)
 (.pre [.keep [2], .drop [74]] (.seq (.r [.bd 84 [.d (.i .i64 0), .d (.s []), .d (.s []), .d (.b false), .d (.s [])] [],
 .st 5 (.t 2) (.t 84),
 .mv 3 (.c (.d (.s []))),
 .mv 4 (.c (.d (.b false))),
 .kill [84]])
 (.ret)))
 (.pre [.kill [83]] (.skip))))
 (.seq (.r [.mv 85 (.t 18),
 .fa 86 (.t 10) 3,
 .st 1 (.t 86) (.c (.d (.b true))),
 .fa 87 (.t 10) 2,
 .st 1 (.t 87) (.t 85),
 .kill [18, 85, 86, 87]])
 (.r [.mv 88 (.t 16),
 .mv 12 (.t 88),
 .kill [16, 88]]))))))
 (.pre [.kill [13, 61]] (.skip)))))
 (.seq (.seq (.r [.mv 90 (.t 12),
 .call 91 true [] (.c (.clo x_strings_CutPrefix [])) [(.t 90), (.c (.d (.s [47, 62])))],
 .mv 89 (.t 91),
 .ext 92 (.t 89) 0,
 .ext 93 (.t 89) 1,
 .mv 20 (.t 92),
 .mv 21 (.t 93),
 .kill [89, 90, 91, 92, 93]])
 (.seq (.r [.mv 94 (.t 21),
 .kill [21]])
 (.cond (.t 94)
 (.pre [.kill [12, 94]] (.seq (.r [.fa 95 (.t 10) 0,
 .st 1 (.t 95) (.c (.d (.i .i64 3))),
 .kill [95]])
 (.seq (.post (.r [.ld 96 5 true (.t 10),
 .an [] [66] [] [] (.mv 97 (.t 20)),
 .mv 98 (.t 11),
 .call 99 true [] (.c (.clo iSmallName [])) [(.t 98)],
 .an [] [] [] [66] (.st 5 (.t 2) (.t 96)),
 .mv 3 (.t 97),
 .mv 4 (.t 99)]) [.keep [4, 3, 2], .drop [74]])
 (.ret))))
 (.pre [.kill [20, 94]] (.skip)))))
 (.seq (.r [.mv 101 (.t 12),
 .call 102 true [] (.c (.clo x_strings_CutPrefix [])) [(.t 101), (.c (.d (.s [62])))],
 .mv 100 (.t 102),
 .ext 103 (.t 100) 0,
 .ext 104 (.t 100) 1,
 .mv 12 (.t 103),
 .mv 22 (.t 104),
 .kill [100, 101, 102, 103, 104]])
 (.seq (.post (.r [.ld 105 5 true (.t 10),
 .an [] [66] [] [] (.mv 106 (.t 12)),
 .mv 107 (.t 22),
 .mv 108 (.t 107),
 .gd 108 true (some 109) (.mv 109 (.t 11)),
 .gd 108 true (some 110) (.call 110 true [] (.c (.clo iSmallName [])) [(.t 109)]),
 .an [] [66] [] [] (.pick 111 (.t 108) (.t 110) (.c (.d (.b false)))),
 .an [] [] [] [66] (.st 5 (.t 2) (.t 105)),
 .mv 3 (.t 106),
 .mv 4 (.t 111)]) [.keep [4, 3, 2], .drop [74]])
 (.ret)))))))))⟩
/-- live: [0, 4]; objects: [] -/
def iUnescape_l0 : C :=
 .blk 1 (.seq (.r [.mv 16 (.t 0),
 .call 17 true [] (.c (.clo x_strings_Cut [])) [(.t 16), (.c (.d (.s [38])))],
 .mv 15 (.t 17),
 .ext 18 (.t 15) 0,
 .ext 19 (.t 15) 1,
 .ext 20 (.t 15) 2,
 .mv 5 (.t 18),
 .kill [0, 15, 16, 17, 18],
 .mv 6 (.t 19),
 .mv 7 (.t 20),
 .keep [7, 6, 5, 4]])
 (.seq (.r [.mv 21 (.t 4),
 .mv 22 (.t 5),
 .bin 23 .add .num (.t 21) (.t 22),
 .mv 4 (.t 23),
 .keep [7, 6, 4]])
 (.seq (.seq (.r [.mv 24 (.t 7),
 .not 25 (.t 24),
 .kill [7, 24]])
 (.cond (.t 25)
 (.pre [.keep [4]] (.seq (.r [.mv 26 (.t 4),
 .mv 2 (.t 26),
 .mv 3 (.c (.d (.b true))),
 .kill [4, 26]])
 (.ret)))
 (.pre [.kill [25]] (.skip))))
 (.seq (.r [.mv 28 (.t 6),
 .call 29 true [] (.c (.clo x_strings_Cut [])) [(.t 28), (.c (.d (.s [59])))],
 .mv 27 (.t 29),
 .ext 30 (.t 27) 0,
 .ext 31 (.t 27) 1,
 .ext 32 (.t 27) 2,
 .mv 8 (.t 30),
 .kill [6, 27, 28, 29, 30],
 .mv 9 (.t 31),
 .mv 10 (.t 32),
 .keep [10, 9, 8, 4]])
 (.seq (.r [.mv 34 (.t 8),
 .call 35 true [] (.c (.clo inamed [])) [(.t 34)],
 .mv 33 (.t 35),
 .ext 36 (.t 33) 0,
 .ext 37 (.t 33) 1,
 .mv 11 (.t 36),
 .kill [8, 33, 34, 35, 36],
 .mv 12 (.t 37),
 .keep [12, 11, 10, 9, 4]])
 (.seq (.seq (.r [.mv 38 (.t 10),
 .not 39 (.t 38),
 .mv 40 (.t 39),
 .gd 40 false (some 41) (.mv 41 (.t 12)),
 .gd 40 false (some 42) (.not 42 (.t 41)),
 .kill [10, 12, 38, 39, 41],
 .pick 43 (.t 40) (.c (.d (.b true))) (.t 42),
 .keep [43, 11, 9, 4]])
 (.cond (.t 43)
 (.pre [.keep []] (.seq (.r [.mv 2 (.c (.d (.s []))),
 .mv 3 (.c (.d (.b false)))])
 (.ret)))
 (.pre [.kill [43]] (.skip))))
 (.seq (.r [.mv 44 (.t 4),
 .mv 45 (.t 11),
 .bin 46 .add .num (.t 44) (.t 45),
 .mv 4 (.t 46),
 .keep [9, 4]])
 (.r [.mv 47 (.t 9),
 .mv 0 (.t 47),
 .kill [9, 47]]))))))))
def iUnescape_m : Fn := ⟨1, [.t 2, .t 3], false,
 .seq (.r [.mv 2 (.c (.d (.s []))),
 .mv 3 (.c (.d (.b false))),
 .keep [0]])
 (.seq (.seq (.r [.mv 13 (.t 0),
 .call 14 true [] (.c (.clo x_strings_Contains [])) [(.t 13), (.c (.d (.s [60])))],
 .kill [13]])
 (.cond (.t 14)
 (.pre [.keep []] (.seq (.r [.mv 2 (.c (.d (.s []))),
 .mv 3 (.c (.d (.b false)))])
 (.ret)))
 (.pre [.kill [14]] (.skip))))
 (.seq (.r [.mv 4 (.c (.d (.s [])))])
 (.blk 0 (.pre [.keep [4, 0]] (.loop iUnescape_l0)))))⟩
def iisBlank_m : Fn := ⟨1, [.t 2], false,
 .seq (.r [.mv 2 (.c (.d (.b false))),
 .kill [2]])
 (.seq (.r [.mv 3 (.t 0),
 .call 4 true [] (.c (.clo x_strings_Trim [])) [(.t 3), (.c (.d (.s [32])))],
 .bin 5 .eql .num (.t 4) (.c (.d (.s []))),
 .mv 2 (.t 5),
 .keep [2]])
 (.ret))⟩
/-- live: [1, 6, 55, 56, 57]; objects: [] -/
def inodeOk_l0 : C :=
 .seq (.r [.bin 58 .lss .num (.t 57) (.t 56)])
 (.seq (.cond (.t 58)
 (.pre [.kill [58]] (.skip))
 (.pre [.keep [6]] (.ex 0)))
 (.seq (.blk 1 (.seq (.r [.ia 59 4 (.t 55) (.t 57),
 .ld 60 4 true (.t 59),
 .al 8 .node true,
 .st 4 (.t 8) (.t 60),
 .kill [59, 60]])
 (.seq (.r [.ld 62 4 true (.t 8),
 .mv 63 (.t 1),
 .bin 64 .add .num (.t 63) (.c (.d (.i .i64 1))),
 .call 65 true [] (.c (.clo inodeOk [])) [(.t 62), (.t 64)],
 .mv 61 (.t 65),
 .kill [8, 62, 63, 64, 65],
 .ext 66 (.t 61) 0,
 .ext 67 (.t 61) 1,
 .mv 9 (.t 66),
 .mv 10 (.t 67),
 .keep [57, 56, 55, 10, 9, 6, 1],
 .drop [72]])
 (.seq (.r [.mv 68 (.t 6),
 .mv 69 (.t 9),
 .bin 70 .add .num (.t 68) (.t 69),
 .mv 6 (.t 70),
 .kill [9, 68, 69, 70]])
 (.seq (.r [.mv 71 (.t 10),
 .not 72 (.t 71),
 .mv 73 (.t 72),
 .gd 73 false (some 74) (.mv 74 (.t 6)),
 .gd 73 false (some 75) (.bin 75 .gtr .num (.t 74) (.c (.d (.i .i64 20)))),
 .pick 76 (.t 73) (.c (.d (.b true))) (.t 75),
 .kill [10, 71, 72, 73, 74, 75]])
 (.cond (.t 76)
 (.pre [.keep []] (.seq (.r [.mv 4 (.c (.d (.i .i64 0))),
 .mv 5 (.c (.d (.b false)))])
 (.ret)))
 (.pre [.kill [76]] (.skip))))))))
 (.r [.bin 77 .add .num (.t 57) (.c (.d (.i .i64 1))),
 .mv 57 (.t 77),
 .kill [77]])))
def inodeOk_m : Fn := ⟨2, [.t 4, .t 5], false,
 .seq (.r [.bx 2 .node true (.t 0),
 .mv 4 (.c (.d (.i .i64 0))),
 .mv 5 (.c (.d (.b false))),
 .keep [2, 1]])
 (.seq (.seq (.r [.mv 11 (.t 1),
 .bin 12 .gtr .num (.t 11) (.c (.d (.i .i64 5))),
 .mv 13 (.t 12),
 .gd 13 false (some 14) (.fa 14 (.t 2) 0),
 .gd 13 false (some 15) (.ld 15 1 false (.t 14)),
 .gd 13 false (some 16) (.lns 16 (.t 15)),
 .gd 13 false (some 17) (.bin 17 .gtr .num (.t 16) (.c (.d (.i .i64 20)))),
 .kill [11, 12, 14, 15, 16],
 .pick 18 (.t 13) (.c (.d (.b true))) (.t 17),
 .mv 19 (.t 18),
 .gd 19 false (some 20) (.fa 20 (.t 2) 0),
 .gd 19 false (some 21) (.ld 21 1 false (.t 20)),
 .gd 19 false (some 22) (.call 22 true [] (.c (.clo iPlain [])) [(.t 21)]),
 .kill [13, 17, 18, 20, 21],
 .gd 19 false (some 23) (.not 23 (.t 22)),
 .pick 24 (.t 19) (.c (.d (.b true))) (.t 23),
 .mv 25 (.t 24),
 .gd 25 false (some 26) (.fa 26 (.t 2) 1),
 .gd 25 false (some 27) (.ld 27 1 false (.t 26)),
 .kill [19, 22, 23, 24, 26],
 .gd 25 false (some 28) (.call 28 true [] (.c (.clo iSmallName [])) [(.t 27)]),
 .gd 25 false (some 29) (.not 29 (.t 28)),
 .pick 30 (.t 25) (.c (.d (.b true))) (.t 29),
 .mv 31 (.t 30),
 .kill [25, 27, 28, 29, 30],
 .gd 31 false (some 32) (.fa 32 (.t 2) 2),
 .gd 31 false (some 33) (.ld 33 1 false (.t 32)),
 .gd 31 false (some 34) (.lns 34 (.t 33)),
 .gd 31 false (some 35) (.bin 35 .gtr .num (.t 34) (.c (.d (.i .i64 60)))),
 .pick 36 (.t 31) (.c (.d (.b true))) (.t 35),
 .kill [31, 32, 33, 34, 35],
 .mv 37 (.t 36),
 .gd 37 false (some 38) (.fa 38 (.t 2) 2),
 .gd 37 false (some 39) (.ld 39 1 false (.t 38)),
 .gd 37 false (some 40) (.call 40 true [] (.c (.clo iPlain [])) [(.t 39)]),
 .gd 37 false (some 41) (.not 41 (.t 40)),
 .pick 42 (.t 37) (.c (.d (.b true))) (.t 41),
 .kill [36, 37, 38, 39, 40, 41],
 .mv 43 (.t 42),
 .gd 43 false (some 44) (.fa 44 (.t 2) 2),
 .gd 43 false (some 45) (.ld 45 1 false (.t 44)),
 .gd 43 false (some 46) (.bin 46 .neq .num (.t 45) (.c (.d (.s [])))),
 .gd 43 false (some 47) (.mv 47 (.t 46)),
 .gd 47 true (some 48) (.fa 48 (.t 2) 3),
 .gd 47 true (some 49) (.ld 49 1 false (.t 48)),
 .kill [42, 44, 45, 46, 48],
 .gd 47 true (some 50) (.len 50 (.t 49)),
 .gd 47 true (some 51) (.bin 51 .gtr .num (.t 50) (.c (.d (.i .i64 0)))),
 .gd 43 false (some 52) (.pick 52 (.t 47) (.t 51) (.c (.d (.b false)))),
 .pick 53 (.t 43) (.c (.d (.b true))) (.t 52),
 .keep [53, 2, 1]])
 (.cond (.t 53)
 (.pre [.keep [], .drop [66]] (.seq (.r [.mv 4 (.c (.d (.i .i64 0))),
 .mv 5 (.c (.d (.b false)))])
 (.ret)))
 (.pre [.kill [53]] (.skip))))
 (.seq (.r [.mv 6 (.c (.d (.i .i64 1)))])
 (.seq (.seq (.r [.fa 54 (.t 2) 3,
 .ld 55 1 false (.t 54),
 .len 56 (.t 55),
 .mv 57 (.c (.d (.i .i64 0))),
 .kill [2, 54],
 .drop [66]])
 (.blk 0 (.pre [.keep [57, 56, 55, 6, 1]] (.loop inodeOk_l0))))
 (.seq (.r [.mv 78 (.t 6),
 .mv 4 (.t 78),
 .mv 5 (.c (.d (.b true))),
 .kill [6, 78]])
 (.ret)))))⟩
/-- live: [3, 5, 6, 11, 12, 13]; objects: [67, 69] -/
def isetProp_l0 : C :=
 .seq (.r [.bin 14 .lss .num (.t 13) (.t 12)])
 (.seq (.cond (.t 14)
 (.pre [.kill [14]] (.skip))
 (.pre [.keep [6, 5, 3]] (.ex 0)))
 (.seq (.blk 1 (.seq (.r [.ia 15 3 (.t 11) (.t 13),
 .ld 16 3 true (.t 15),
 .al 8 TProp false,
 .st 3 (.t 8) (.t 16),
 .kill [15, 16]])
 (.seq (.seq (.r [.mv 17 (.t 6),
 .not 18 (.t 17),
 .mv 19 (.t 18),
 .gd 19 true (some 20) (.ld 20 3 true (.t 8)),
 .gd 19 true (some 21) (.fa 21 (.t 3) 1),
 .gd 19 true (some 22) (.ld 22 3 true (.t 21)),
 .gd 19 true (some 23) (.call 23 true [] (.c (.clo ilessProp [])) [(.t 20), (.t 22)]),
 .kill [17, 18, 20, 21, 22],
 .gd 19 true (some 24) (.not 24 (.t 23)),
 .pick 25 (.t 19) (.t 24) (.c (.d (.b false))),
 .kill [17, 18, 19, 20, 21, 22, 23, 24]])
 (.cond (.t 25)
 (.pre [.kill [6, 25]] (.seq (.r [.mv 26 (.t 5),
 .fa 27 (.t 3) 1,
 .ld 28 3 true (.t 27),
 .bs 29 TProp false 1 [.d (.s []), .d (.s []), .d (.s [])] [(0, (.t 28))],
 .app 30 TProp false 48 (.t 26) (.t 29),
 .kill [5, 26, 27, 28, 29],
 .mv 5 (.t 30),
 .ren 94 69,
 .kill [26, 27, 28, 29, 30],
 .drop [93, 94]])
 (.r [.mv 6 (.c (.d (.b true)))])))
 (.pre [.kill [25]] (.skip))))
 (.seq (.r [.fa 31 (.t 8) 0,
 .ld 32 1 false (.t 31),
 .fa 33 (.t 3) 1,
 .fa 34 (.t 33) 0,
 .ld 35 1 false (.t 34),
 .bin 36 .neq .num (.t 32) (.t 35),
 .kill [31, 32, 33, 34, 35],
 .mv 37 (.t 36),
 .gd 37 false (some 38) (.fa 38 (.t 8) 1),
 .gd 37 false (some 39) (.ld 39 1 false (.t 38)),
 .gd 37 false (some 40) (.fa 40 (.t 3) 1),
 .gd 37 false (some 41) (.fa 41 (.t 40) 1),
 .gd 37 false (some 42) (.ld 42 1 false (.t 41)),
 .gd 37 false (some 43) (.bin 43 .neq .num (.t 39) (.t 42)),
 .kill [36, 38, 39, 40, 41, 42],
 .pick 44 (.t 37) (.c (.d (.b true))) (.t 43),
 .keep [44, 13, 12, 11, 8, 6, 5, 3]])
 (.cond (.t 44)
 (.pre [.kill [44]] (.r [.mv 45 (.t 5),
 .ld 46 3 true (.t 8),
 .bs 47 TProp false 1 [.d (.s []), .d (.s []), .d (.s [])] [(0, (.t 46))],
 .app 48 TProp false 48 (.t 45) (.t 47),
 .kill [5, 8, 45, 46, 47],
 .mv 5 (.t 48),
 .ren 112 69,
 .kill [8, 45, 46, 47, 48],
 .drop [72, 111, 112]]))
 (.pre [.kill [8, 44], .drop [72]] (.skip)))))))
 (.r [.bin 49 .add .num (.t 13) (.c (.d (.i .i64 1))),
 .mv 13 (.t 49),
 .kill [49]])))
def isetProp_m : Fn := ⟨2, [.t 4], false,
 .seq (.r [.bx 3 TSet false (.t 1),
 .mv 4 (.c (.nil TProp)),
 .opn 4 4 false,
 .kill [1, 4],
 .drop [68]])
 (.seq (.r [.mv 5 (.c (.nil TProp)),
 .opn 5 5 false])
 (.seq (.r [.fa 9 (.t 3) 0,
 .ld 10 1 false (.t 9),
 .mv 6 (.t 10),
 .kill [9, 10]])
 (.seq (.seq (.r [.mv 11 (.t 0),
 .len 12 (.t 11),
 .mv 13 (.c (.d (.i .i64 0))),
 .kill [0]])
 (.blk 0 (.pre [.keep [13, 12, 11, 6, 5, 3]] (.loop isetProp_l0))))
 (.seq (.seq (.r [.mv 50 (.t 6),
 .not 51 (.t 50),
 .kill [6, 50]])
 (.cond (.t 51)
 (.pre [.kill [51]] (.r [.mv 52 (.t 5),
 .fa 53 (.t 3) 1,
 .ld 54 3 true (.t 53),
 .bs 55 TProp false 1 [.d (.s []), .d (.s []), .d (.s [])] [(0, (.t 54))],
 .app 56 TProp false 48 (.t 52) (.t 55),
 .kill [3, 5, 52, 53, 54, 55],
 .mv 5 (.t 56),
 .ren 120 69,
 .keep [5],
 .drop [67, 119, 120]]))
 (.pre [.keep [5], .drop [67]] (.skip))))
 (.seq (.r [.mv 57 (.t 5),
 .mv 4 (.t 57),
 .ren 69 68,
 .keep [4],
 .drop [69]])
 (.ret))))))⟩
def iPieceText_m : Fn := ⟨1, [.t 2], false,
 .seq (.r [.bx 1 TPiece false (.t 0),
 .mv 2 (.c (.d (.s []))),
 .keep [1]])
 (.seq (.r [.mv 3 (.c (.d (.s [])))])
 (.seq (.seq (.r [.fa 4 (.t 1) 3,
 .ld 5 1 false (.t 4),
 .kill [4]])
 (.cond (.t 5)
 (.pre [.keep [1]] (.r [.fa 6 (.t 1) 2,
 .ld 7 1 false (.t 6),
 .call 8 true [] (.c (.clo iEscape [])) [(.t 7)],
 .bin 9 .add .num (.c (.d (.s [32, 120, 109, 108, 110, 115, 61, 34]))) (.t 8),
 .bin 10 .add .num (.t 9) (.c (.d (.s [34]))),
 .mv 3 (.t 10),
 .keep [3, 1]]))
 (.pre [.kill [5]] (.skip))))
 (.seq (.seq (.r [.fa 11 (.t 1) 0,
 .ld 12 1 false (.t 11),
 .kill [11]])
 (.blk 0 (.seq (.r [.bin 14 .eql .num (.t 12) (.c (.d (.i .i64 1))),
 .mv 13 (.t 14),
 .kill [14]])
 (.cond (.t 13)
 (.pre [.kill [12, 13]] (.seq (.r [.fa 15 (.t 1) 1,
 .ld 16 1 false (.t 15),
 .bin 17 .add .num (.c (.d (.s [60]))) (.t 16),
 .mv 18 (.t 3),
 .bin 19 .add .num (.t 17) (.t 18),
 .kill [1, 3, 15, 16, 17, 18],
 .bin 20 .add .num (.t 19) (.c (.d (.s [62]))),
 .mv 2 (.t 20),
 .keep [2],
 .drop [65]])
 (.ret)))
 (.pre [.kill [13]] (.seq (.r [.bin 22 .eql .num (.t 12) (.c (.d (.i .i64 2))),
 .mv 21 (.t 22),
 .kill [22]])
 (.cond (.t 21)
 (.pre [.keep [1]] (.seq (.r [.fa 23 (.t 1) 1,
 .ld 24 1 false (.t 23),
 .bin 25 .add .num (.c (.d (.s [60, 47]))) (.t 24),
 .bin 26 .add .num (.t 25) (.c (.d (.s [62]))),
 .mv 2 (.t 26),
 .keep [2],
 .drop [65]])
 (.ret)))
 (.pre [.kill [21]] (.seq (.r [.bin 28 .eql .num (.t 12) (.c (.d (.i .i64 3))),
 .mv 27 (.t 28),
 .kill [12, 28]])
 (.cond (.t 27)
 (.pre [.kill [27]] (.seq (.r [.fa 29 (.t 1) 1,
 .ld 30 1 false (.t 29),
 .bin 31 .add .num (.c (.d (.s [60]))) (.t 30),
 .mv 32 (.t 3),
 .bin 33 .add .num (.t 31) (.t 32),
 .kill [1, 3, 29, 30, 31, 32],
 .bin 34 .add .num (.t 33) (.c (.d (.s [47, 62]))),
 .mv 2 (.t 34),
 .keep [2],
 .drop [65]])
 (.ret)))
 (.pre [.keep [1]] (.skip))))))))))))
 (.seq (.r [.fa 35 (.t 1) 4,
 .ld 36 1 false (.t 35),
 .call 37 true [] (.c (.clo iEscape [])) [(.t 36)],
 .mv 2 (.t 37),
 .keep [2],
 .drop [65]])
 (.ret)))))⟩
/-- live: [0, 3, 4]; objects: [] -/
def iEscape_l0 : C :=
 .seq (.seq (.r [.mv 5 (.t 4),
 .mv 6 (.t 0),
 .lns 7 (.t 6),
 .bin 8 .lss .num (.t 5) (.t 7),
 .kill [5, 6, 7]])
 (.cond (.t 8)
 (.pre [.kill [8]] (.skip))
 (.pre [.keep [3]] (.ex 0))))
 (.seq (.blk 1 (.seq (.r [.mv 11 (.t 0),
 .mv 12 (.t 4),
 .ix 13 (.t 11) (.t 12),
 .kill [11, 12]])
 (.blk 2 (.seq (.r [.bin 22 .eql .num (.t 13) (.c (.d (.u 38))),
 .mv 21 (.t 22),
 .kill [22]])
 (.cond (.t 21)
 (.pre [.kill [13, 21]] (.r [.mv 23 (.t 3),
 .bin 24 .add .num (.t 23) (.c (.d (.s [38, 97, 109, 112, 59]))),
 .mv 3 (.t 24),
 .kill [23, 24]]))
 (.pre [.kill [21]] (.seq (.r [.bin 26 .eql .num (.t 13) (.c (.d (.u 60))),
 .mv 25 (.t 26),
 .kill [26]])
 (.cond (.t 25)
 (.pre [.kill [13, 25]] (.r [.mv 27 (.t 3),
 .bin 28 .add .num (.t 27) (.c (.d (.s [38, 108, 116, 59]))),
 .mv 3 (.t 28),
 .kill [27, 28]]))
 (.pre [.kill [25]] (.seq (.r [.bin 30 .eql .num (.t 13) (.c (.d (.u 62))),
 .mv 29 (.t 30),
 .kill [30]])
 (.cond (.t 29)
 (.pre [.kill [13, 29]] (.r [.mv 31 (.t 3),
 .bin 32 .add .num (.t 31) (.c (.d (.s [38, 103, 116, 59]))),
 .mv 3 (.t 32),
 .kill [31, 32]]))
 (.pre [.kill [29]] (.seq (.r [.bin 34 .eql .num (.t 13) (.c (.d (.u 34))),
 .mv 33 (.t 34),
 .kill [13, 34]])
 (.cond (.t 33)
 (.pre [.kill [33]] (.r [.mv 35 (.t 3),
 .bin 36 .add .num (.t 35) (.c (.d (.s [38, 113, 117, 111, 116, 59]))),
 .mv 3 (.t 36),
 .kill [35, 36]]))
 (.pre [.kill [33]] (.r [.mv 14 (.t 3),
 .mv 15 (.t 0),
 .mv 16 (.t 4),
 .mv 17 (.t 4),
 .bin 18 .add .num (.t 17) (.c (.d (.i .i64 1))),
 .slc 19 0 (.t 15) (some (.t 16)) (some (.t 18)),
 .kill [3, 15, 16, 17, 18],
 .bin 20 .add .num (.t 14) (.t 19),
 .mv 3 (.t 20),
 .keep [4, 3, 0]]))))))))))))))))
 (.r [.mv 9 (.t 4),
 .bin 10 .add .num (.t 9) (.c (.d (.i .i64 1))),
 .mv 4 (.t 10),
 .kill [9, 10]]))
def iEscape_m : Fn := ⟨1, [.t 2], false,
 .seq (.r [.mv 2 (.c (.d (.s []))),
 .kill [2]])
 (.seq (.r [.mv 3 (.c (.d (.s [])))])
 (.seq (.seq (.r [.mv 4 (.c (.d (.i .i64 0)))])
 (.blk 0 (.pre [.keep [4, 3, 0]] (.loop iEscape_l0))))
 (.seq (.r [.mv 37 (.t 3),
 .mv 2 (.t 37),
 .keep [2]])
 (.ret))))⟩
/-- live: [0, 3, 4]; objects: [67] -/
def iQuote_l0 : C :=
 .seq (.seq (.r [.mv 6 (.t 4),
 .mv 7 (.t 0),
 .lns 8 (.t 7),
 .bin 9 .lss .num (.t 6) (.t 8),
 .kill [6, 7, 8]])
 (.cond (.t 9)
 (.pre [.kill [9]] (.skip))
 (.pre [.keep [3]] (.ex 0))))
 (.seq (.blk 1 (.seq (.r [.mv 12 (.t 0),
 .mv 13 (.t 4),
 .ix 14 (.t 12) (.t 13),
 .mv 5 (.t 14),
 .kill [12, 13, 14]])
 (.seq (.r [.mv 15 (.t 5),
 .call 16 true [] (.c (.clo iisSmall [])) [(.t 15)],
 .mv 17 (.t 16),
 .gd 17 false (some 18) (.mv 18 (.t 5)),
 .gd 17 false (some 19) (.call 19 true [] (.c (.clo iisLarge [])) [(.t 18)]),
 .pick 20 (.t 17) (.c (.d (.b true))) (.t 19),
 .kill [15, 16, 17, 18, 19],
 .mv 21 (.t 20),
 .gd 21 false (some 22) (.mv 22 (.t 5)),
 .gd 21 false (some 23) (.call 23 true [] (.c (.clo iisDigit [])) [(.t 22)]),
 .pick 24 (.t 21) (.c (.d (.b true))) (.t 23),
 .mv 25 (.t 24),
 .kill [20, 21, 22, 23, 24],
 .gd 25 false (some 26) (.mv 26 (.t 5)),
 .gd 25 false (some 27) (.call 27 true [] (.c (.clo x_strings_IndexByte [])) [(.c (.d (.s [45, 46, 95, 126]))), (.t 26)]),
 .gd 25 false (some 28) (.bin 28 .geq .num (.t 27) (.c (.d (.i .i64 0)))),
 .pick 29 (.t 25) (.c (.d (.b true))) (.t 28),
 .keep [29, 5, 4, 3, 0]])
 (.cond (.t 29)
 (.pre [.kill [29]] (.r [.mv 30 (.t 3),
 .mv 31 (.t 5),
 .bs 32 .u8 false 1 [.d (.u 0)] [(0, (.t 31))],
 .app 33 .u8 false 1 (.t 30) (.t 32),
 .kill [3, 5, 30, 31, 32],
 .mv 3 (.t 33),
 .ren 97 67,
 .keep [4, 3, 0],
 .drop [96, 97]]))
 (.pre [.kill [29]] (.post (.r [.an [105] [] [] [] (.mv 34 (.t 3)),
 .mv 35 (.t 5),
 .bin 36 .shr .num (.t 35) (.c (.d (.i .u64 4))),
 .ix 37 (.c (.d (.s [48, 49, 50, 51, 52, 53, 54, 55, 56, 57, 65, 66, 67, 68, 69, 70]))) (.t 36),
 .mv 38 (.t 5),
 .bin 39 .and .num (.t 38) (.c (.d (.u 15))),
 .ix 40 (.c (.d (.s [48, 49, 50, 51, 52, 53, 54, 55, 56, 57, 65, 66, 67, 68, 69, 70]))) (.t 39),
 .an [] [] [105] [] (.bs 41 .u8 false 3 [.d (.u 0)] [(0, (.c (.d (.u 37)))), (1, (.t 37)), (2, (.t 40))]),
 .an [] [] [67, 106] [] (.app 42 .u8 false 1 (.t 34) (.t 41)),
 .mv 3 (.t 42)]) [.ren 106 67, .keep [4, 3, 0], .drop [105, 106]]))))))
 (.r [.mv 10 (.t 4),
 .bin 11 .add .num (.t 10) (.c (.d (.i .i64 1))),
 .mv 4 (.t 11),
 .kill [10, 11]]))
def iQuote_m : Fn := ⟨1, [.t 2], false,
 .seq (.r [.mv 2 (.c (.d (.s []))),
 .kill [2]])
 (.seq (.r [.mv 3 (.c (.nil .u8)),
 .opn 3 3 false])
 (.seq (.seq (.r [.mv 4 (.c (.d (.i .i64 0)))])
 (.blk 0 (.pre [.keep [4, 3, 0]] (.loop iQuote_l0))))
 (.seq (.r [.mv 43 (.t 3),
 .b2s 44 (.t 43),
 .mv 2 (.t 44),
 .keep [2],
 .drop [67]])
 (.ret))))⟩
def iisAt_m : Fn := ⟨2, [.t 4], false,
 .seq (.r [.mv 4 (.c (.d (.b false))),
 .kill [4]])
 (.seq (.r [.mv 5 (.t 0),
 .mv 6 (.t 1),
 .call 7 true [] (.c (.clo iSamePath [])) [(.t 5), (.t 6)],
 .mv 8 (.t 7),
 .gd 8 false (some 9) (.mv 9 (.t 0)),
 .gd 8 false (some 10) (.mv 10 (.t 1)),
 .kill [0, 1, 5, 6, 7],
 .gd 8 false (some 11) (.call 11 true [] (.c (.clo iUnder [])) [(.t 9), (.t 10)]),
 .pick 12 (.t 8) (.c (.d (.b true))) (.t 11),
 .mv 4 (.t 12),
 .keep [4]])
 (.ret))⟩
/-- live: [1, 5, 8, 9, 10]; objects: [69] -/
def iDeepOf_l0 : C :=
 .seq (.r [.bin 11 .lss .num (.t 10) (.t 9)])
 (.seq (.cond (.t 11)
 (.pre [.kill [11]] (.skip))
 (.pre [.keep [5]] (.ex 0)))
 (.seq (.blk 1 (.seq (.r [.ia 12 5 (.t 8) (.t 10),
 .ld 13 5 true (.t 12),
 .al 7 TRes true,
 .st 5 (.t 7) (.t 13),
 .kill [12, 13]])
 (.seq (.r [.fa 14 (.t 7) 0,
 .ld 15 1 false (.t 14),
 .mv 16 (.t 1),
 .call 17 true [] (.c (.clo iisAt [])) [(.t 15), (.t 16)],
 .kill [14, 15, 16]])
 (.cond (.t 17)
 (.pre [.kill [17]] (.r [.mv 18 (.t 5),
 .ld 19 5 true (.t 7),
 .call 20 false [] (.c (.clo icopyRes [])) [(.t 19)],
 .bs 21 TRes false 1 [.nil .str, .d (.b false), .d (.s []), .d (.i .i64 0), .nil TProp] [(0, (.t 20))],
 .app 22 TRes false 80 (.t 18) (.t 21),
 .kill [5, 7, 18, 19, 20, 21],
 .mv 5 (.t 22),
 .ren 86 69,
 .keep [10, 9, 8, 5, 1],
 .drop [71, 85, 86, 21064, 21068]]))
 (.pre [.kill [7, 17], .drop [71]] (.skip))))))
 (.r [.bin 23 .add .num (.t 10) (.c (.d (.i .i64 1))),
 .mv 10 (.t 23),
 .kill [23]])))
def iDeepOf_m : Fn := ⟨2, [.t 4], false,
 .seq (.r [.mv 4 (.c (.nil TRes)),
 .opn 4 4 false,
 .kill [4],
 .drop [68]])
 (.seq (.r [.mv 5 (.c (.nil TRes)),
 .opn 5 5 false])
 (.seq (.seq (.r [.mv 8 (.t 0),
 .len 9 (.t 8),
 .mv 10 (.c (.d (.i .i64 0))),
 .kill [0]])
 (.blk 0 (.pre [.keep [10, 9, 8, 5, 1]] (.loop iDeepOf_l0))))
 (.seq (.r [.mv 24 (.t 5),
 .mv 4 (.t 24),
 .ren 69 68,
 .keep [4],
 .drop [69]])
 (.ret))))⟩
/-- live: [0, 4]; objects: [] -/
def inameAt_l0 : C :=
 .seq (.seq (.r [.mv 5 (.t 4),
 .mv 6 (.t 0),
 .lns 7 (.t 6),
 .bin 8 .lss .num (.t 5) (.t 7),
 .mv 9 (.t 8),
 .gd 9 true (some 10) (.mv 10 (.t 0)),
 .gd 9 true (some 11) (.mv 11 (.t 4)),
 .gd 9 true (some 12) (.ix 12 (.t 10) (.t 11)),
 .kill [5, 6, 7, 8, 10, 11],
 .gd 9 true (some 13) (.call 13 true [] (.c (.clo iisSmall [])) [(.t 12)]),
 .gd 9 true (some 14) (.mv 14 (.t 13)),
 .gd 14 false (some 15) (.mv 15 (.t 0)),
 .gd 14 false (some 16) (.mv 16 (.t 4)),
 .gd 14 false (some 17) (.ix 17 (.t 15) (.t 16)),
 .gd 14 false (some 18) (.call 18 true [] (.c (.clo iisDigit [])) [(.t 17)]),
 .kill [12, 13, 15, 16, 17],
 .gd 9 true (some 19) (.pick 19 (.t 14) (.c (.d (.b true))) (.t 18)),
 .gd 9 true (some 20) (.mv 20 (.t 19)),
 .gd 20 false (some 21) (.mv 21 (.t 0)),
 .gd 20 false (some 22) (.mv 22 (.t 4)),
 .gd 20 false (some 23) (.ix 23 (.t 21) (.t 22)),
 .kill [14, 18, 19, 21, 22],
 .gd 20 false (some 24) (.bin 24 .eql .num (.t 23) (.c (.d (.u 45)))),
 .gd 9 true (some 25) (.pick 25 (.t 20) (.c (.d (.b true))) (.t 24)),
 .pick 26 (.t 9) (.t 25) (.c (.d (.b false))),
 .keep [26, 4, 0]])
 (.cond (.t 26)
 (.pre [.kill [26]] (.skip))
 (.pre [.kill [26]] (.ex 0))))
 (.blk 1 (.r [.mv 27 (.t 4),
 .bin 28 .add .num (.t 27) (.c (.d (.i .i64 1))),
 .mv 4 (.t 28),
 .kill [27, 28]]))
def inameAt_m : Fn := ⟨1, [.t 2, .t 3], false,
 .seq (.r [.mv 2 (.c (.d (.s []))),
 .mv 3 (.c (.d (.s []))),
 .keep [0]])
 (.seq (.r [.mv 4 (.c (.d (.i .i64 0)))])
 (.seq (.blk 0 (.pre [.keep [4, 0]] (.loop inameAt_l0)))
 (.seq (.post (.r [.mv 29 (.t 0),
 .mv 30 (.t 4),
 .slc 31 0 (.t 29) none (some (.t 30)),
 .mv 32 (.t 0),
 .mv 33 (.t 4),
 .slc 34 0 (.t 32) (some (.t 33)) none,
 .mv 2 (.t 31),
 .mv 3 (.t 34)]) [.keep [3, 2]])
 (.ret))))⟩
def inamed_m : Fn := ⟨1, [.t 2, .t 3], false,
 .seq (.r [.mv 2 (.c (.d (.s []))),
 .mv 3 (.c (.d (.b false))),
 .keep [0]])
 (.seq (.seq (.r [.mv 8 (.t 0)])
 (.blk 0 (.seq (.r [.bin 10 .eql .num (.t 8) (.c (.d (.s [97, 109, 112]))),
 .mv 9 (.t 10),
 .kill [10]])
 (.cond (.t 9)
 (.pre [.keep []] (.seq (.r [.mv 2 (.c (.d (.s [38]))),
 .mv 3 (.c (.d (.b true)))])
 (.ret)))
 (.pre [.kill [9]] (.seq (.r [.bin 12 .eql .num (.t 8) (.c (.d (.s [108, 116]))),
 .mv 11 (.t 12),
 .kill [12]])
 (.cond (.t 11)
 (.pre [.keep []] (.seq (.r [.mv 2 (.c (.d (.s [60]))),
 .mv 3 (.c (.d (.b true)))])
 (.ret)))
 (.pre [.kill [11]] (.seq (.r [.bin 14 .eql .num (.t 8) (.c (.d (.s [103, 116]))),
 .mv 13 (.t 14),
 .kill [14]])
 (.cond (.t 13)
 (.pre [.keep []] (.seq (.r [.mv 2 (.c (.d (.s [62]))),
 .mv 3 (.c (.d (.b true)))])
 (.ret)))
 (.pre [.kill [13]] (.seq (.r [.bin 16 .eql .num (.t 8) (.c (.d (.s [113, 117, 111, 116]))),
 .mv 15 (.t 16),
 .kill [16]])
 (.cond (.t 15)
 (.pre [.keep []] (.seq (.r [.mv 2 (.c (.d (.s [34]))),
 .mv 3 (.c (.d (.b true)))])
 (.ret)))
 (.pre [.kill [15]] (.seq (.r [.bin 18 .eql .num (.t 8) (.c (.d (.s [97, 112, 111, 115]))),
 .mv 17 (.t 18),
 .kill [8, 18]])
 (.cond (.t 17)
 (.pre [.keep []] (.seq (.r [.mv 2 (.c (.d (.s [39]))),
 .mv 3 (.c (.d (.b true)))])
 (.ret)))
 (.pre [.kill [17]] (.skip))))))))))))))))))
 (.seq (.r [.mv 20 (.t 0),
 .call 21 true [] (.c (.clo x_strings_CutPrefix [])) [(.t 20), (.c (.d (.s [35])))],
 .mv 19 (.t 21),
 .ext 22 (.t 19) 0,
 .ext 23 (.t 19) 1,
 .mv 4 (.t 22),
 .kill [0, 19, 20, 21, 22],
 .mv 5 (.t 23),
 .keep [5, 4]])
 (.seq (.r [.mv 25 (.t 4),
 .call 26 true [] (.c (.clo iParseNum [])) [(.t 25), (.c (.d (.i .i64 126)))],
 .mv 24 (.t 26),
 .ext 27 (.t 24) 0,
 .ext 28 (.t 24) 1,
 .mv 6 (.t 27),
 .kill [4, 24, 25, 26, 27],
 .mv 7 (.t 28),
 .keep [7, 6, 5]])
 (.seq (.seq (.r [.mv 29 (.t 5),
 .not 30 (.t 29),
 .mv 31 (.t 30),
 .gd 31 false (some 32) (.mv 32 (.t 7)),
 .gd 31 false (some 33) (.not 33 (.t 32)),
 .kill [5, 7, 29, 30, 32],
 .pick 34 (.t 31) (.c (.d (.b true))) (.t 33),
 .mv 35 (.t 34),
 .gd 35 false (some 36) (.mv 36 (.t 6)),
 .gd 35 false (some 37) (.bin 37 .lss .num (.t 36) (.c (.d (.i .i64 32)))),
 .pick 38 (.t 35) (.c (.d (.b true))) (.t 37),
 .keep [38, 6]])
 (.cond (.t 38)
 (.pre [.keep []] (.seq (.r [.mv 2 (.c (.d (.s []))),
 .mv 3 (.c (.d (.b false)))])
 (.ret)))
 (.pre [.kill [38]] (.skip))))
 (.seq (.r [.mv 39 (.t 6),
 .cvi 40 .u8 (.t 39),
 .bs 41 .u8 false 1 [.d (.u 0)] [(0, (.t 40))],
 .b2s 42 (.t 41),
 .mv 2 (.t 42),
 .kill [6, 39, 40, 41, 42],
 .mv 3 (.c (.d (.b true))),
 .keep [3, 2],
 .drop [105]])
 (.ret))))))⟩
def tabL : List (Nat × Fn) := [(wFnLocked, wFnLocked_m), (wbig, wbig_m), (wat, wat_m), (iDraw, iDraw_m), (iSrvNew, iSrvNew_m), (iDo, iDo_m), (iHeadOf, iHeadOf_m), (iTick, iTick_m), (iNumText, iNumText_m), (iSameSrv, iSameSrv_m), (icopySrv, icopySrv_m), (iSrvOk, iSrvOk_m), (iSrv_do, iSrv_do_m), (iin, iin_m), (iLiveLocks, iLiveLocks_m), (isameTrees, isameTrees_m), (isameLocks, isameLocks_m), (isameInts, isameInts_m), (icopyTree, icopyTree_m), (icopyLocks, icopyLocks_m), (icopyInts, icopyInts_m), (iTreeOk, iTreeOk_m), (iLocksOk, iLocksOk_m), (iusedOk, iusedOk_m), (ihasInt, ihasInt_m), (iReqOk, iReqOk_m), (icodeAlone, icodeAlone_m), (iAskOf, iAskOf_m), (iChanges, iChanges_m), (iSrv_method, iSrv_method_m), (ikeepLocks, ikeepLocks_m), (iLiveLocks_1, iLiveLocks_1_m), (isameRes, isameRes_m), (iSamePath, iSamePath_m), (icopyRes, icopyRes_m), (icopyPath, icopyPath_m), (iresOk, iresOk_m), (iLessPath, iLessPath_m), (iIsColl, iIsColl_m), (iAbove, iAbove_m), (iLockOk, iLockOk_m), (iLockClash, iLockClash_m), (ilineOk, ilineOk_m), (iheadsOk, iheadsOk_m), (iParsePath, iParsePath_m), (iDepthOf, iDepthOf_m), (iknownMethod, iknownMethod_m), (iParseIf, iParseIf_m), (idepthFits, idepthFits_m), (iSubmitted, iSubmitted_m), (iifCode, iifCode_m), (iSrv_read, iSrv_read_m), (iSrv_patch, iSrv_patch_m), (iFind, iFind_m), (iSrv_lock, iSrv_lock_m), (iSrv_unlock, iSrv_unlock_m), (iSrv_turn, iSrv_turn_m), (iPathOk, iPathOk_m), (iPropsOk, iPropsOk_m), (iFindRes, iFindRes_m), (iCovers, iCovers_m), (iisLarge, iisLarge_m), (iPlain, iPlain_m), (iSmallName, iSmallName_m), (ivalOk, ivalOk_m), (iUnquote, iUnquote_m), (iLower, iLower_m), (ilistAt, ilistAt_m), (iTagAt, iTagAt_m), (iEvalIf, iEvalIf_m), (iTokensAt, iTokensAt_m), (iMatchOk, iMatchOk_m), (iNoneOk, iNoneOk_m), (iMayChange, iMayChange_m), (ietag, ietag_m), (iParseNode, iParseNode_m), (iSetsOf, iSetsOf_m), (iPatch, iPatch_m), (iNodeText, iNodeText_m), (iMultiNode, iMultiNode_m), (iItemsOf, iItemsOf_m), (ilockHeads, ilockHeads_m), (iAddLock, iAddLock_m), (iSrv_useToken, iSrv_useToken_m), (iParseNum, iParseNum_m), (iDropLock, iDropLock_m), (iPutFile, iPutFile_m), (iMakeColl, iMakeColl_m), (iRemove, iRemove_m), (iMoveTree, iMoveTree_m), (iCopyTree, iCopyTree_m), (iSrv_copyAlone, iSrv_copyAlone_m), (iSrv_dropUnder, iSrv_dropUnder_m), (iTagText, iTagText_m), (iNameOk, iNameOk_m), (ipropOk, ipropOk_m), (ilessProp, ilessProp_m), (iUnder, iUnder_m), (iisPlain, iisPlain_m), (iisSmall, iisSmall_m), (iisDigit, iisDigit_m), (iTrim, iTrim_m), (idigitOf, idigitOf_m), (icondAt, icondAt_m), (itagged, itagged_m), (iMayChange_1, iMayChange_1_m), (iMayChange_2, iMayChange_2_m), (iMayChange_3, iMayChange_3_m), (iPieces, iPieces_m), (inodes_blanks, inodes_blanks_m), (inodes_node, inodes_node_m), (iNodeOk, iNodeOk_m), (iisDav, iisDav_m), (iSetProps, iSetProps_m), (inodeText, inodeText_m), (idavNode, idavNode_m), (itextNode, itextNode_m), (iPathText, iPathText_m), (iitem, iitem_m), (iKidsOf, iKidsOf_m), (iopForm, iopForm_m), (iwithRes, iwithRes_m), (iwithout, iwithout_m), (icopied, icopied_m), (iSrv_dropUnder_1, iSrv_dropUnder_1_m), (itagAt, itagAt_m), (iParseTags, iParseTags_m), (iMayTurn, iMayTurn_m), (imarkAt, imarkAt_m), (iUnescape, iUnescape_m), (iisBlank, iisBlank_m), (inodeOk, inodeOk_m), (isetProp, isetProp_m), (iPieceText, iPieceText_m), (iEscape, iEscape_m), (iQuote, iQuote_m), (iisAt, iisAt_m), (iDeepOf, iDeepOf_m), (inameAt, inameAt_m), (inamed, inamed_m)]
end Go.Proofs.YtniakiefibpgmaaGreatDoorK
