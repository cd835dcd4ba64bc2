import Derived.Test.YtfklggpopffkjaaDoorJ24
import Derived.Test.YtfklggpopffkjaaDoorProg
import Derived.KernelRfl
set_option linter.unusedVariables false
set_option linter.unusedSimpArgs false
namespace Go.Proofs.YtfklggpopffkjaaDoorK
open Go.RowKit
def wFnExactPutRec : Nat := 3
def wszRec : Nat := 4
def sPutRec : Nat := 5
def wtoByteS : Nat := 6
def wtoRec : Nat := 7
def iPutRec : Nat := 8
def weqByteS : Nat := 9
def weqRec : Nat := 10
def wmarkByteS : Nat := 11
def wmarkRec : Nat := 12
def wheldByteS : Nat := 13
def wszReq : Nat := 14
def sPutReq : Nat := 15
def sl1In : Nat := 16
def wtoReq : Nat := 17
def icopyBytes : Nat := 18
def iputRec : Nat := 19
def weqReq : Nat := 20
def wmarkReq : Nat := 21
def wszHeadS : Nat := 22
def sl3Put : Nat := 23
def sNumText : Nat := 24
def wtoHeadS : Nat := 25
def iPutReq : Nat := 26
def iin : Nat := 27
def weqHeadS : Nat := 28
def wmarkHeadS : Nat := 29
def wszHead : Nat := 30
def sl3HeadsText : Nat := 31
def sReqOk : Nat := 32
def wtoHead : Nat := 33
def ilengthText : Nat := 34
def iputReq : Nat := 35
def weqHead : Nat := 36
def wmarkText : Nat := 37
def sl3Method : Nat := 38
def sl3Target : Nat := 39
def sl3Heads : Nat := 40
def iNumText : Nat := 41
def iheadText : Nat := 42
def iReqOk : Nat := 43
def sl1Large : Nat := 44
def sSmallName : Nat := 45
def sl3Val : Nat := 46
def ilineOk : Nat := 48
def iheadsOk : Nat := 49
def sl1Small : Nat := 50
def sl1Digit : Nat := 51
def sPlain : Nat := 52
def sTrim : Nat := 53
def iisLarge : Nat := 55
def iPlain : Nat := 56
def iSmallName : Nat := 58
def ivalOk : Nat := 59
def sl1Blank : Nat := 60
def iisPlain : Nat := 62
def iisSmall : Nat := 64
def iisDigit : Nat := 65
def iTrim : Nat := 66
def x_strconv_Itoa : Nat := 47
def x_strings_Contains : Nat := 57
def x_strings_Trim : Nat := 72
abbrev THead : T := .pr .str .str
abbrev TReq : T := .pr .str (.pr .str (.pr (.sl THead) .str))
abbrev TRec : T := .pr (.int .i64) (.pr (.int .i64) TReq)
def wFnExactPutRec_m : Fn := ⟨2, [.t 4], false,
  .seq (.r [.bx 3 TRec true (.t 1),
    .mv 4 (.c (.d (.b false))),
    .kill [1, 4]])
  (.seq (.seq (.r [.mv 14 (.t 0),
    .len 15 (.t 14),
    .bin 16 .gtr .num (.t 15) (.c (.d (.i .i64 1048576))),
    .kill [14, 15]])
  (.cond (.t 16)
    (.pre [.keep [], .drop [67]] (.seq (.r [.mv 4 (.c (.d (.b true)))])
    (.ret)))
    (.pre [.kill [16]] (.skip))))
  (.seq (.r [.mv 5 (.c (.d (.i .i64 1048576)))])
  (.seq (.r [.ld 17 6 true (.t 3),
    .mv 18 (.t 5),
    .call 19 true [] (.c (.clo wszRec [])) [(.t 17), (.t 18)],
    .mv 5 (.t 19),
    .kill [17, 18, 19]])
  (.seq (.seq (.r [.mv 20 (.t 5),
    .bin 21 .lss .num (.t 20) (.c (.d (.i .i64 0))),
    .kill [5, 20]])
  (.cond (.t 21)
    (.pre [.keep [], .drop [67]] (.seq (.r [.mv 4 (.c (.d (.b true)))])
    (.ret)))
    (.pre [.kill [21]] (.skip))))
  (.seq (.post (.r [.mv 22 (.t 0),
    .call 23 true [] (.c (.clo wtoByteS [])) [(.t 22)],
    .ld 24 6 true (.t 3),
    .call 25 true [] (.c (.clo wtoRec [])) [(.t 24)],
    .call 26 true [] (.c (.clo sPutRec [])) [(.t 23), (.t 25)],
    .mv 6 (.t 26)]) [.keep [6, 3, 0]])
  (.seq (.r [.mv 27 (.t 0),
    .call 28 false [] (.c (.clo wtoByteS [])) [(.t 27)],
    .mv 7 (.t 28),
    .kill [27, 28]])
  (.seq (.r [.ld 29 6 true (.t 3),
    .call 30 false [] (.c (.clo wtoRec [])) [(.t 29)],
    .al 8 TRec false,
    .stl 6 (.t 8) (.t 30),
    .kill [29, 30]])
  (.seq (.r [.mv 31 (.t 7),
    .ld 32 6 true (.t 8),
    .call 33 false [] (.c (.clo iPutRec [])) [(.t 31), (.t 32)],
    .mv 9 (.t 33),
    .kill [31, 32, 33]])
  (.seq (.seq (.r [.mv 34 (.t 9),
    .mv 35 (.t 6),
    .call 36 true [] (.c (.clo weqByteS [])) [(.t 34), (.t 35)],
    .not 37 (.t 36),
    .kill [34, 35, 36]])
  (.cond (.t 37)
    (.pre [.keep [], .drop [67, 72, 29064, 31068, 34064]] (.seq (.r [.mv 4 (.c (.d (.b false)))])
    (.ret)))
    (.pre [.kill [37]] (.skip))))
  (.seq (.seq (.r [.mv 38 (.t 7),
    .mv 39 (.t 0),
    .call 40 true [] (.c (.clo wtoByteS [])) [(.t 39)],
    .call 41 true [] (.c (.clo weqByteS [])) [(.t 38), (.t 40)],
    .not 42 (.t 41),
    .kill [38, 39, 40, 41]])
  (.cond (.t 42)
    (.pre [.keep [], .drop [67, 72, 29064, 31068, 34064]] (.seq (.r [.mv 4 (.c (.d (.b false)))])
    (.ret)))
    (.pre [.kill [42]] (.skip))))
  (.seq (.seq (.post (.r [.ld 43 6 true (.t 8),
    .ld 44 6 true (.t 3),
    .call 45 true [] (.c (.clo wtoRec [])) [(.t 44)],
    .call 46 true [] (.c (.clo weqRec [])) [(.t 43), (.t 45)],
    .not 47 (.t 46)]) [.kill [43, 44, 45, 46]])
  (.cond (.t 47)
    (.pre [.keep [], .drop [67, 72, 29064, 31068, 34064]] (.seq (.r [.mv 4 (.c (.d (.b false)))])
    (.ret)))
    (.pre [.kill [47]] (.skip))))
  (.seq (.r [.mv 10 (.c (.d (.i .i64 1)))])
  (.seq (.r [.mv 48 (.t 7),
    .mv 49 (.t 10),
    .call 50 true [29064] (.c (.clo wmarkByteS [])) [(.t 48), (.t 49)],
    .mv 10 (.t 50),
    .kill [7, 48, 49, 50],
    .drop [29064]])
  (.seq (.r [.ld 51 6 true (.t 8),
    .mv 52 (.t 10),
    .call 53 true [31068] (.c (.clo wmarkRec [])) [(.t 51), (.t 52)],
    .mv 10 (.t 53),
    .kill [8, 51, 52, 53],
    .drop [72, 31068]])
  (.seq (.seq (.r [.mv 54 (.t 10),
    .bin 55 .lss .num (.t 54) (.c (.d (.i .i64 0))),
    .mv 56 (.t 55),
    .gd 56 false (some 57) (.mv 57 (.t 9)),
    .gd 56 false (some 58) (.mv 58 (.t 6)),
    .gd 56 false (some 59) (.call 59 true [] (.c (.clo weqByteS [])) [(.t 57), (.t 58)]),
    .kill [10, 54, 55, 57, 58],
    .gd 56 false (some 60) (.not 60 (.t 59)),
    .pick 61 (.t 56) (.c (.d (.b true))) (.t 60),
    .keep [61, 9, 6, 3, 0]])
  (.cond (.t 61)
    (.pre [.keep [], .drop [67, 34064]] (.seq (.r [.mv 4 (.c (.d (.b false)))])
    (.ret)))
    (.pre [.kill [61]] (.skip))))
  (.seq (.r [.mv 11 (.c (.d (.i .i64 1)))])
  (.seq (.r [.mv 62 (.t 9),
    .mv 63 (.t 11),
    .call 64 true [34064] (.c (.clo wmarkByteS [])) [(.t 62), (.t 63)],
    .mv 11 (.t 64),
    .kill [62, 63, 64]])
  (.seq (.r [.mv 12 (.c (.d (.i .i64 1)))])
  (.seq (.r [.mv 65 (.t 9),
    .mv 66 (.t 12),
    .call 67 true [] (.c (.clo wheldByteS [])) [(.t 65), (.t 66)],
    .mv 12 (.t 67),
    .kill [65, 66, 67]])
  (.seq (.seq (.r [.mv 68 (.t 12),
    .bin 69 .lss .num (.t 68) (.c (.d (.i .i64 0))),
    .kill [68]])
  (.cond (.t 69)
    (.pre [.keep [], .drop [67, 34064]] (.seq (.r [.mv 4 (.c (.d (.b false)))])
    (.ret)))
    (.pre [.kill [69]] (.skip))))
  (.seq (.seq (.r [.mv 70 (.t 12),
    .mv 71 (.t 11),
    .bin 72 .neq .num (.t 70) (.t 71),
    .kill [12, 70, 71]])
  (.cond (.t 72)
    (.pre [.keep [], .drop [67, 34064]] (.seq (.r [.mv 4 (.c (.d (.b false)))])
    (.ret)))
    (.pre [.kill [72]] (.skip))))
  (.seq (.post (.r [.mv 73 (.t 0),
    .call 74 true [] (.c (.clo wtoByteS [])) [(.t 73)],
    .ld 75 6 true (.t 3),
    .call 76 true [] (.c (.clo wtoRec [])) [(.t 75)],
    .call 77 true [] (.c (.clo iPutRec [])) [(.t 74), (.t 76)],
    .mv 13 (.t 77)]) [.keep [13, 11, 9, 6], .drop [67]])
  (.seq (.seq (.r [.mv 78 (.t 13),
    .mv 79 (.t 6),
    .call 80 true [] (.c (.clo weqByteS [])) [(.t 78), (.t 79)],
    .not 81 (.t 80),
    .keep [81, 11, 9]])
  (.cond (.t 81)
    (.pre [.keep [], .drop [34064]] (.seq (.r [.mv 4 (.c (.d (.b false)))])
    (.ret)))
    (.pre [.kill [81]] (.skip))))
  (.seq (.r [.mv 12 (.c (.d (.i .i64 1)))])
  (.seq (.r [.mv 82 (.t 9),
    .mv 83 (.t 12),
    .call 84 true [] (.c (.clo wheldByteS [])) [(.t 82), (.t 83)],
    .mv 12 (.t 84),
    .keep [12, 11],
    .drop [34064]])
  (.seq (.seq (.r [.mv 85 (.t 12),
    .bin 86 .lss .num (.t 85) (.c (.d (.i .i64 0))),
    .kill [85]])
  (.cond (.t 86)
    (.pre [.keep []] (.seq (.r [.mv 4 (.c (.d (.b false)))])
    (.ret)))
    (.pre [.kill [86]] (.skip))))
  (.seq (.seq (.r [.mv 87 (.t 12),
    .mv 88 (.t 11),
    .bin 89 .neq .num (.t 87) (.t 88),
    .keep [89]])
  (.cond (.t 89)
    (.pre [.keep []] (.seq (.r [.mv 4 (.c (.d (.b false)))])
    (.ret)))
    (.pre [.keep []] (.skip))))
  (.seq (.r [.mv 4 (.c (.d (.b true)))])
  (.ret)))))))))))))))))))))))))))))⟩
def wszRec_m : Fn := ⟨2, [.t 4], false,
  .seq (.r [.bx 2 TRec true (.t 0),
    .mv 4 (.c (.d (.i .i64 0))),
    .kill [0, 4]])
  (.seq (.r [.fa 5 (.t 2) 2,
    .ld 6 4 true (.t 5),
    .mv 7 (.t 1),
    .call 8 true [] (.c (.clo wszReq [])) [(.t 6), (.t 7)],
    .kill [1, 2, 5, 6, 7],
    .mv 1 (.t 8),
    .keep [1],
    .drop [66]])
  (.seq (.seq (.r [.mv 9 (.t 1),
    .bin 10 .lss .num (.t 9) (.c (.d (.i .i64 0))),
    .kill [9]])
  (.cond (.t 10)
    (.pre [.keep []] (.seq (.r [.mv 4 (.c (.d (.i .i64 (-1))))])
    (.ret)))
    (.pre [.kill [10]] (.skip))))
  (.seq (.r [.mv 11 (.t 1),
    .mv 4 (.t 11),
    .keep [4]])
  (.ret))))⟩
def sPutRec_m : Fn := ⟨2, [.t 4], false,
  .seq (.r [.bx 3 TRec true (.t 1),
    .mv 4 (.c (.nil .u8)),
    .opn 4 4 false,
    .kill [1, 4],
    .drop [68]])
  (.seq (.r [.bs 8 .u8 false 0 [.d (.u 0)] [],
    .mv 9 (.t 0),
    .app 10 .u8 false 1 (.t 8) (.t 9),
    .mv 5 (.t 10),
    .ren 74 69,
    .keep [5, 3],
    .drop [72, 74]])
  (.seq (.r [.fa 11 (.t 3) 2,
    .ld 12 4 true (.t 11),
    .call 13 true [] (.c (.clo sPutReq [])) [(.t 12)],
    .mv 6 (.t 13),
    .kill [11, 12, 13]])
  (.seq (.seq (.r [.fa 14 (.t 3) 0,
    .ld 15 1 false (.t 14),
    .call 16 true [] (.c (.clo sl1In [])) [(.t 15), (.c (.d (.i .i64 0))), (.c (.d (.i .i64 9999999)))],
    .not 17 (.t 16),
    .mv 18 (.t 17),
    .gd 18 false (some 19) (.fa 19 (.t 3) 1),
    .gd 18 false (some 20) (.ld 20 1 false (.t 19)),
    .kill [14, 15, 16, 17, 19],
    .gd 18 false (some 21) (.call 21 true [] (.c (.clo sl1In [])) [(.t 20), (.c (.d (.i .i64 0))), (.c (.d (.i .i64 9999)))]),
    .gd 18 false (some 22) (.not 22 (.t 21)),
    .pick 23 (.t 18) (.c (.d (.b true))) (.t 22),
    .mv 24 (.t 23),
    .kill [18, 20, 21, 22, 23],
    .gd 24 false (some 25) (.mv 25 (.t 6)),
    .gd 24 false (some 26) (.len 26 (.t 25)),
    .gd 24 false (some 27) (.bin 27 .eql .num (.t 26) (.c (.d (.i .i64 0)))),
    .pick 28 (.t 24) (.c (.d (.b true))) (.t 27),
    .keep [28, 6, 5, 3]])
  (.cond (.t 28)
    (.pre [.keep [5], .drop [67]] (.seq (.r [.mv 29 (.t 5),
      .mv 4 (.t 29),
      .ren 69 68,
      .keep [4],
      .drop [69]])
    (.ret)))
    (.pre [.kill [28]] (.skip))))
  (.seq (.r [.mv 30 (.t 6),
    .len 31 (.t 30),
    .bin 32 .add .num (.t 31) (.c (.d (.i .i64 5))),
    .mv 7 (.t 32),
    .kill [30, 31, 32]])
  (.seq (.r [.mv 33 (.t 5),
    .mv 34 (.t 7),
    .bin 35 .shr .num (.t 34) (.c (.d (.i .u64 8))),
    .cvi 36 .u8 (.t 35),
    .mv 37 (.t 7),
    .cvi 38 .u8 (.t 37),
    .kill [5, 7, 34, 35, 37],
    .fa 39 (.t 3) 0,
    .ld 40 1 false (.t 39),
    .bin 41 .shr .num (.t 40) (.c (.d (.i .u64 16))),
    .cvi 42 .u8 (.t 41),
    .fa 43 (.t 3) 0,
    .ld 44 1 false (.t 43),
    .bin 45 .shr .num (.t 44) (.c (.d (.i .u64 8))),
    .kill [39, 40, 41, 43, 44],
    .cvi 46 .u8 (.t 45),
    .fa 47 (.t 3) 0,
    .ld 48 1 false (.t 47),
    .cvi 49 .u8 (.t 48),
    .fa 50 (.t 3) 1,
    .ld 51 1 false (.t 50),
    .bin 52 .shr .num (.t 51) (.c (.d (.i .u64 8))),
    .kill [45, 47, 48, 50, 51],
    .cvi 53 .u8 (.t 52),
    .fa 54 (.t 3) 1,
    .ld 55 1 false (.t 54),
    .cvi 56 .u8 (.t 55),
    .bs 57 .u8 false 7 [.d (.u 0)] [(0, (.t 36)), (1, (.t 38)), (2, (.t 42)), (3, (.t 46)), (4, (.t 49)), (5, (.t 53)), (6, (.t 56))],
    .kill [3, 36, 38, 42, 46, 49, 52, 53, 54, 55, 56],
    .app 58 .u8 false 1 (.t 33) (.t 57),
    .mv 5 (.t 58),
    .ren 122 69,
    .keep [6, 5],
    .drop [67, 121, 122]])
  (.seq (.r [.mv 59 (.t 5),
    .mv 60 (.t 6),
    .app 61 .u8 false 1 (.t 59) (.t 60),
    .mv 4 (.t 61),
    .ren 125 68,
    .keep [4],
    .drop [69, 125]])
  (.ret)))))))⟩
/-- live: [0, 3, 4]; objects: [71] -/
def wtoByteS_l0 : C :=
  .seq (.seq (.r [.mv 8 (.t 4),
      .mv 9 (.t 0),
      .len 10 (.t 9),
      .bin 11 .lss .num (.t 8) (.t 10),
      .kill [8, 9, 10]])
    (.cond (.t 11)
      (.pre [.kill [11]] (.skip))
      (.pre [.keep [3]] (.ex 0))))
    (.seq (.blk 1 (.r [.mv 14 (.t 3),
      .mv 15 (.t 4),
      .mv 16 (.t 0),
      .mv 17 (.t 4),
      .ia 18 1 (.t 16) (.t 17),
      .ld 19 1 false (.t 18),
      .ia 20 1 (.t 14) (.t 15),
      .kill [14, 15, 16, 17, 18],
      .st 1 (.t 20) (.t 19),
      .keep [4, 3, 0]]))
    (.r [.mv 12 (.t 4),
      .bin 13 .add .num (.t 12) (.c (.d (.i .i64 1))),
      .mv 4 (.t 13),
      .kill [12, 13]]))
def wtoByteS_m : Fn := ⟨1, [.t 2], false,
  .seq (.r [.mv 2 (.c (.nil .u8)),
    .opn 2 2 false,
    .kill [2],
    .drop [66]])
  (.seq (.r [.mv 5 (.t 0),
    .len 6 (.t 5),
    .mk 7 .u8 1 (.t 6),
    .mv 3 (.t 7),
    .keep [3, 0]])
  (.seq (.seq (.r [.mv 4 (.c (.d (.i .i64 0)))])
  (.blk 0 (.pre [.keep [4, 3, 0]] (.loop wtoByteS_l0))))
  (.seq (.r [.mv 21 (.t 3),
    .mv 2 (.t 21),
    .ren 71 66,
    .keep [2],
    .drop [71]])
  (.ret))))⟩
def wtoRec_m : Fn := ⟨1, [.cell 2 6 true], false,
  .seq (.r [.bx 1 TRec true (.t 0),
    .al 2 TRec false,
    .kill [0]])
  (.seq (.r [.al 3 TRec false])
  (.seq (.r [.fa 4 (.t 1) 0,
    .ld 5 1 false (.t 4),
    .fa 6 (.t 3) 0,
    .st 1 (.t 6) (.t 5),
    .kill [4, 5, 6]])
  (.seq (.r [.fa 7 (.t 1) 1,
    .ld 8 1 false (.t 7),
    .fa 9 (.t 3) 1,
    .st 1 (.t 9) (.t 8),
    .kill [7, 8, 9]])
  (.seq (.r [.fa 10 (.t 1) 2,
    .ld 11 4 true (.t 10),
    .call 12 false [] (.c (.clo wtoReq [])) [(.t 11)],
    .fa 13 (.t 3) 2,
    .st 4 (.t 13) (.t 12),
    .keep [3, 2],
    .drop [65, 13066]])
  (.seq (.r [.ldt 14 6 true (.t 3),
    .st 6 (.t 2) (.t 14),
    .keep [2],
    .drop [67, 15068]])
  (.ret))))))⟩
def iPutRec_m : Fn := ⟨2, [.t 4], false,
  .seq (.r [.bx 3 TRec true (.t 1),
    .mv 4 (.c (.nil .u8)),
    .opn 4 4 false,
    .kill [1, 4],
    .drop [68]])
  (.seq (.post (.r [.mv 5 (.t 0),
    .an [] [] [7064] [] (.call 6 false [] (.c (.clo icopyBytes [])) [(.t 5)]),
    .an [7064] [] [] [] (.ld 7 6 true (.t 3)),
    .call 8 true [] (.c (.clo iputRec [])) [(.t 7)],
    .an [] [] [73, 7064] [] (.app 9 .u8 false 1 (.t 6) (.t 8)),
    .mv 4 (.t 9)]) [.ren 73 68, .keep [4], .drop [67, 73, 7064]])
  (.ret))⟩
/-- live: [0, 1, 5]; objects: [] -/
def weqByteS_l0 : C :=
  .seq (.seq (.r [.mv 11 (.t 5),
      .mv 12 (.t 0),
      .len 13 (.t 12),
      .bin 14 .lss .num (.t 11) (.t 13),
      .kill [11, 12, 13]])
    (.cond (.t 14)
      (.pre [.kill [14]] (.skip))
      (.pre [.keep []] (.ex 0))))
    (.seq (.blk 1 (.seq (.post (.r [.mv 17 (.t 0),
      .mv 18 (.t 5),
      .ia 19 1 (.t 17) (.t 18),
      .ld 20 1 false (.t 19),
      .mv 21 (.t 1),
      .mv 22 (.t 5),
      .ia 23 1 (.t 21) (.t 22),
      .ld 24 1 false (.t 23),
      .bin 25 .neq .num (.t 20) (.t 24)]) [.keep [25, 5, 1, 0]])
    (.cond (.t 25)
      (.pre [.keep []] (.seq (.r [.mv 4 (.c (.d (.b false)))])
      (.ret)))
      (.pre [.kill [25]] (.skip)))))
    (.r [.mv 15 (.t 5),
      .bin 16 .add .num (.t 15) (.c (.d (.i .i64 1))),
      .mv 5 (.t 16),
      .kill [15, 16]]))
def weqByteS_m : Fn := ⟨2, [.t 4], false,
  .seq (.r [.mv 4 (.c (.d (.b false))),
    .kill [4]])
  (.seq (.seq (.r [.mv 6 (.t 0),
    .len 7 (.t 6),
    .mv 8 (.t 1),
    .len 9 (.t 8),
    .bin 10 .neq .num (.t 7) (.t 9),
    .keep [10, 1, 0]])
  (.cond (.t 10)
    (.pre [.keep []] (.seq (.r [.mv 4 (.c (.d (.b false)))])
    (.ret)))
    (.pre [.kill [10]] (.skip))))
  (.seq (.seq (.r [.mv 5 (.c (.d (.i .i64 0)))])
  (.blk 0 (.pre [.keep [5, 1, 0]] (.loop weqByteS_l0))))
  (.seq (.r [.mv 4 (.c (.d (.b true)))])
  (.ret))))⟩
def weqRec_m : Fn := ⟨2, [.t 4], false,
  .seq (.r [.bx 2 TRec true (.t 0),
    .bx 3 TRec true (.t 1),
    .mv 4 (.c (.d (.b false))),
    .keep [3, 2]])
  (.seq (.seq (.r [.fa 5 (.t 2) 0,
    .ld 6 1 false (.t 5),
    .fa 7 (.t 3) 0,
    .ld 8 1 false (.t 7),
    .bin 9 .neq .num (.t 6) (.t 8),
    .keep [9, 3, 2]])
  (.cond (.t 9)
    (.pre [.keep [], .drop [66, 67]] (.seq (.r [.mv 4 (.c (.d (.b false)))])
    (.ret)))
    (.pre [.kill [9]] (.skip))))
  (.seq (.seq (.r [.fa 10 (.t 2) 1,
    .ld 11 1 false (.t 10),
    .fa 12 (.t 3) 1,
    .ld 13 1 false (.t 12),
    .bin 14 .neq .num (.t 11) (.t 13),
    .keep [14, 3, 2]])
  (.cond (.t 14)
    (.pre [.keep [], .drop [66, 67]] (.seq (.r [.mv 4 (.c (.d (.b false)))])
    (.ret)))
    (.pre [.kill [14]] (.skip))))
  (.seq (.seq (.r [.fa 15 (.t 2) 2,
    .ld 16 4 true (.t 15),
    .fa 17 (.t 3) 2,
    .ld 18 4 true (.t 17),
    .call 19 true [] (.c (.clo weqReq [])) [(.t 16), (.t 18)],
    .kill [2, 3, 15, 16, 17, 18],
    .not 20 (.t 19),
    .keep [20],
    .drop [66, 67]])
  (.cond (.t 20)
    (.pre [.keep []] (.seq (.r [.mv 4 (.c (.d (.b false)))])
    (.ret)))
    (.pre [.keep []] (.skip))))
  (.seq (.r [.mv 4 (.c (.d (.b true)))])
  (.ret)))))⟩
/-- live: [0, 1, 5]; objects: [0] -/
def wmarkByteS_l0 : C :=
  .seq (.seq (.r [.mv 6 (.t 5),
      .mv 7 (.t 0),
      .len 8 (.t 7),
      .bin 9 .lss .num (.t 6) (.t 8),
      .kill [6, 7, 8]])
    (.cond (.t 9)
      (.pre [.kill [9]] (.skip))
      (.pre [.keep [1]] (.ex 0))))
    (.seq (.blk 1 (.seq (.r [.mv 12 (.t 0),
      .mv 13 (.t 5),
      .mv 14 (.t 1),
      .cvi 15 .u8 (.t 14),
      .ia 16 1 (.t 12) (.t 13),
      .st 1 (.t 16) (.t 15),
      .keep [5, 1, 0]])
    (.r [.mv 17 (.t 1),
      .bin 18 .add .num (.t 17) (.c (.d (.i .i64 1))),
      .mv 1 (.t 18),
      .kill [17, 18]])))
    (.r [.mv 10 (.t 5),
      .bin 11 .add .num (.t 10) (.c (.d (.i .i64 1))),
      .mv 5 (.t 11),
      .kill [10, 11]]))
def wmarkByteS_m : Fn := ⟨2, [.t 4], false,
  .seq (.r [.mv 4 (.c (.d (.i .i64 0))),
    .kill [4]])
  (.seq (.seq (.r [.mv 5 (.c (.d (.i .i64 0)))])
  (.blk 0 (.pre [.keep [5, 1, 0]] (.loop wmarkByteS_l0))))
  (.seq (.r [.mv 19 (.t 1),
    .mv 4 (.t 19),
    .keep [4]])
  (.ret)))⟩
def wmarkRec_m : Fn := ⟨2, [.t 4], false,
  .seq (.r [.bxl 2 TRec (.t 0),
    .mv 4 (.c (.d (.i .i64 0))),
    .kill [0, 4]])
  (.seq (.r [.fa 5 (.t 2) 2,
    .ld 6 4 true (.t 5),
    .mv 7 (.t 1),
    .call 8 true [0] (.c (.clo wmarkReq [])) [(.t 6), (.t 7)],
    .kill [1, 2, 5, 6, 7],
    .mv 1 (.t 8),
    .keep [1],
    .drop [66]])
  (.seq (.r [.mv 9 (.t 1),
    .mv 4 (.t 9),
    .keep [4]])
  (.ret)))⟩
/-- live: [0, 1, 5]; objects: [] -/
def wheldByteS_l0 : C :=
  .seq (.seq (.r [.mv 6 (.t 5),
      .mv 7 (.t 0),
      .len 8 (.t 7),
      .bin 9 .lss .num (.t 6) (.t 8),
      .kill [6, 7, 8]])
    (.cond (.t 9)
      (.pre [.kill [9]] (.skip))
      (.pre [.keep [1]] (.ex 0))))
    (.seq (.blk 1 (.seq (.seq (.r [.mv 12 (.t 0),
      .mv 13 (.t 5),
      .ia 14 1 (.t 12) (.t 13),
      .ld 15 1 false (.t 14),
      .mv 16 (.t 1),
      .cvi 17 .u8 (.t 16),
      .bin 18 .neq .num (.t 15) (.t 17),
      .keep [18, 5, 1, 0]])
    (.cond (.t 18)
      (.pre [.keep []] (.seq (.r [.mv 4 (.c (.d (.i .i64 (-1))))])
      (.ret)))
      (.pre [.kill [18]] (.skip))))
    (.r [.mv 19 (.t 1),
      .bin 20 .add .num (.t 19) (.c (.d (.i .i64 1))),
      .mv 1 (.t 20),
      .kill [19, 20]])))
    (.r [.mv 10 (.t 5),
      .bin 11 .add .num (.t 10) (.c (.d (.i .i64 1))),
      .mv 5 (.t 11),
      .kill [10, 11]]))
def wheldByteS_m : Fn := ⟨2, [.t 4], false,
  .seq (.r [.mv 4 (.c (.d (.i .i64 0))),
    .kill [4]])
  (.seq (.seq (.r [.mv 5 (.c (.d (.i .i64 0)))])
  (.blk 0 (.pre [.keep [5, 1, 0]] (.loop wheldByteS_l0))))
  (.seq (.r [.mv 21 (.t 1),
    .mv 4 (.t 21),
    .keep [4]])
  (.ret)))⟩
def wszReq_m : Fn := ⟨2, [.t 4], false,
  .seq (.r [.bx 2 TReq true (.t 0),
    .mv 4 (.c (.d (.i .i64 0))),
    .kill [0, 4]])
  (.seq (.r [.mv 5 (.t 1),
    .fa 6 (.t 2) 0,
    .ld 7 1 false (.t 6),
    .lns 8 (.t 7),
    .bin 9 .sub .num (.t 5) (.t 8),
    .kill [1, 5, 6, 7, 8],
    .mv 1 (.t 9),
    .keep [2, 1]])
  (.seq (.seq (.r [.mv 10 (.t 1),
    .bin 11 .lss .num (.t 10) (.c (.d (.i .i64 0))),
    .kill [10]])
  (.cond (.t 11)
    (.pre [.keep [], .drop [66]] (.seq (.r [.mv 4 (.c (.d (.i .i64 (-1))))])
    (.ret)))
    (.pre [.kill [11]] (.skip))))
  (.seq (.r [.mv 12 (.t 1),
    .fa 13 (.t 2) 1,
    .ld 14 1 false (.t 13),
    .lns 15 (.t 14),
    .bin 16 .sub .num (.t 12) (.t 15),
    .kill [1, 12, 13, 14, 15],
    .mv 1 (.t 16),
    .keep [2, 1]])
  (.seq (.seq (.r [.mv 17 (.t 1),
    .bin 18 .lss .num (.t 17) (.c (.d (.i .i64 0))),
    .kill [17]])
  (.cond (.t 18)
    (.pre [.keep [], .drop [66]] (.seq (.r [.mv 4 (.c (.d (.i .i64 (-1))))])
    (.ret)))
    (.pre [.kill [18]] (.skip))))
  (.seq (.r [.fa 19 (.t 2) 2,
    .ld 20 1 false (.t 19),
    .mv 21 (.t 1),
    .call 22 true [] (.c (.clo wszHeadS [])) [(.t 20), (.t 21)],
    .mv 1 (.t 22),
    .keep [2, 1]])
  (.seq (.seq (.r [.mv 23 (.t 1),
    .bin 24 .lss .num (.t 23) (.c (.d (.i .i64 0))),
    .kill [23]])
  (.cond (.t 24)
    (.pre [.keep [], .drop [66]] (.seq (.r [.mv 4 (.c (.d (.i .i64 (-1))))])
    (.ret)))
    (.pre [.kill [24]] (.skip))))
  (.seq (.r [.mv 25 (.t 1),
    .fa 26 (.t 2) 3,
    .ld 27 1 false (.t 26),
    .lns 28 (.t 27),
    .bin 29 .sub .num (.t 25) (.t 28),
    .kill [1, 2, 25, 26, 27, 28],
    .mv 1 (.t 29),
    .keep [1],
    .drop [66]])
  (.seq (.seq (.r [.mv 30 (.t 1),
    .bin 31 .lss .num (.t 30) (.c (.d (.i .i64 0))),
    .kill [30]])
  (.cond (.t 31)
    (.pre [.keep []] (.seq (.r [.mv 4 (.c (.d (.i .i64 (-1))))])
    (.ret)))
    (.pre [.kill [31]] (.skip))))
  (.seq (.r [.mv 32 (.t 1),
    .mv 4 (.t 32),
    .keep [4]])
  (.ret))))))))))⟩
def sPutReq_m : Fn := ⟨1, [.t 2], false,
  .seq (.r [.bx 1 TReq true (.t 0),
    .mv 2 (.c (.nil .u8)),
    .opn 2 2 false,
    .keep [1],
    .drop [66]])
  (.seq (.seq (.r [.fa 3 (.t 1) 3,
    .ld 4 1 false (.t 3),
    .bin 5 .eql .num (.t 4) (.c (.d (.s []))),
    .kill [3, 4]])
  (.cond (.t 5)
    (.pre [.kill [5]] (.seq (.r [.ld 6 4 true (.t 1),
      .call 7 false [] (.c (.clo sl3Put [])) [(.t 6), (.c (.d (.s []))), (.c (.d (.s [])))],
      .mv 2 (.t 7),
      .ren 8064 66,
      .keep [2],
      .drop [65, 8064]])
    (.ret)))
    (.pre [.kill [5]] (.skip))))
  (.seq (.post (.r [.ld 8 4 true (.t 1),
    .fa 9 (.t 1) 3,
    .ld 10 1 false (.t 9),
    .lns 11 (.t 10),
    .call 12 true [] (.c (.clo sNumText [])) [(.t 11)],
    .bin 13 .add .num (.c (.d (.s [99, 111, 110, 116, 101, 110, 116, 45, 108, 101, 110, 103, 116, 104, 58, 32]))) (.t 12),
    .bin 14 .add .num (.t 13) (.c (.d (.s [13, 10]))),
    .fa 15 (.t 1) 3,
    .ld 16 1 false (.t 15),
    .an [] [] [18064] [] (.call 17 false [] (.c (.clo sl3Put [])) [(.t 8), (.t 14), (.t 16)]),
    .mv 2 (.t 17)]) [.ren 18064 66, .keep [2], .drop [65, 18064]])
  (.ret)))⟩
def sl1In_m : Fn := ⟨3, [.t 6], false,
  .seq (.r [.mv 6 (.c (.d (.b false))),
    .kill [6]])
  (.seq (.r [.mv 7 (.t 0),
    .mv 8 (.t 1),
    .bin 9 .geq .num (.t 7) (.t 8),
    .mv 10 (.t 9),
    .gd 10 true (some 11) (.mv 11 (.t 0)),
    .kill [0, 1, 7, 8, 9],
    .gd 10 true (some 12) (.mv 12 (.t 2)),
    .gd 10 true (some 13) (.bin 13 .leq .num (.t 11) (.t 12)),
    .pick 14 (.t 10) (.t 13) (.c (.d (.b false))),
    .kill [2, 10, 11, 12, 13],
    .mv 6 (.t 14),
    .keep [6]])
  (.ret))⟩
def wtoReq_m : Fn := ⟨1, [.cell 2 4 true], false,
  .seq (.r [.bx 1 TReq true (.t 0),
    .al 2 TReq false,
    .kill [0]])
  (.seq (.r [.al 3 TReq false])
  (.seq (.r [.fa 4 (.t 1) 0,
    .ld 5 1 false (.t 4),
    .fa 6 (.t 3) 0,
    .st 1 (.t 6) (.t 5),
    .kill [4, 5, 6]])
  (.seq (.r [.fa 7 (.t 1) 1,
    .ld 8 1 false (.t 7),
    .fa 9 (.t 3) 1,
    .st 1 (.t 9) (.t 8),
    .kill [7, 8, 9]])
  (.seq (.r [.fa 10 (.t 1) 2,
    .ld 11 1 false (.t 10),
    .call 12 false [] (.c (.clo wtoHeadS [])) [(.t 11)],
    .fa 13 (.t 3) 2,
    .st 1 (.t 13) (.t 12),
    .keep [3, 2, 1],
    .drop [13064]])
  (.seq (.r [.fa 14 (.t 1) 3,
    .ld 15 1 false (.t 14),
    .fa 16 (.t 3) 3,
    .st 1 (.t 16) (.t 15),
    .keep [3, 2],
    .drop [65]])
  (.seq (.r [.ldt 17 4 true (.t 3),
    .st 4 (.t 2) (.t 17),
    .keep [2],
    .drop [67, 18066]])
  (.ret)))))))⟩
def icopyBytes_m : Fn := ⟨1, [.t 2], false,
  .seq (.r [.mv 2 (.c (.nil .u8)),
    .opn 2 2 false,
    .kill [2],
    .drop [66]])
  (.seq (.r [.mv 3 (.t 0),
    .app 4 .u8 false 1 (.c (.nil .u8)) (.t 3),
    .mv 2 (.t 4),
    .ren 68 66,
    .keep [2],
    .drop [68]])
  (.ret))⟩
def iputRec_m : Fn := ⟨1, [.t 2], false,
  .seq (.r [.bx 1 TRec true (.t 0),
    .mv 2 (.c (.nil .u8)),
    .opn 2 2 false,
    .keep [1],
    .drop [66]])
  (.seq (.r [.fa 6 (.t 1) 2,
    .ld 7 4 true (.t 6),
    .call 8 true [] (.c (.clo iPutReq [])) [(.t 7)],
    .mv 3 (.t 8),
    .keep [3, 1]])
  (.seq (.seq (.r [.fa 9 (.t 1) 0,
    .ld 10 1 false (.t 9),
    .call 11 true [] (.c (.clo iin [])) [(.t 10), (.c (.d (.i .i64 0))), (.c (.d (.i .i64 9999999)))],
    .not 12 (.t 11),
    .mv 13 (.t 12),
    .gd 13 false (some 14) (.fa 14 (.t 1) 1),
    .gd 13 false (some 15) (.ld 15 1 false (.t 14)),
    .kill [9, 10, 11, 12, 14],
    .gd 13 false (some 16) (.call 16 true [] (.c (.clo iin [])) [(.t 15), (.c (.d (.i .i64 0))), (.c (.d (.i .i64 9999)))]),
    .gd 13 false (some 17) (.not 17 (.t 16)),
    .pick 18 (.t 13) (.c (.d (.b true))) (.t 17),
    .mv 19 (.t 18),
    .kill [13, 15, 16, 17, 18],
    .gd 19 false (some 20) (.mv 20 (.t 3)),
    .gd 19 false (some 21) (.len 21 (.t 20)),
    .gd 19 false (some 22) (.bin 22 .eql .num (.t 21) (.c (.d (.i .i64 0)))),
    .pick 23 (.t 19) (.c (.d (.b true))) (.t 22),
    .keep [23, 3, 1]])
  (.cond (.t 23)
    (.pre [.keep [], .drop [65]] (.seq (.r [.mv 2 (.c (.nil .u8)),
      .opn 2 2 false])
    (.ret)))
    (.pre [.kill [23]] (.skip))))
  (.seq (.r [.mv 24 (.t 3),
    .len 25 (.t 24),
    .bin 26 .add .num (.t 25) (.c (.d (.i .i64 5))),
    .mv 4 (.t 26),
    .kill [24, 25, 26]])
  (.seq (.r [.mv 27 (.t 4),
    .bin 28 .shr .num (.t 27) (.c (.d (.i .u64 8))),
    .cvi 29 .u8 (.t 28),
    .mv 30 (.t 4),
    .cvi 31 .u8 (.t 30),
    .fa 32 (.t 1) 0,
    .ld 33 1 false (.t 32),
    .kill [4, 27, 28, 30, 32],
    .bin 34 .shr .num (.t 33) (.c (.d (.i .u64 16))),
    .cvi 35 .u8 (.t 34),
    .fa 36 (.t 1) 0,
    .ld 37 1 false (.t 36),
    .bin 38 .shr .num (.t 37) (.c (.d (.i .u64 8))),
    .cvi 39 .u8 (.t 38),
    .kill [33, 34, 36, 37, 38],
    .fa 40 (.t 1) 0,
    .ld 41 1 false (.t 40),
    .cvi 42 .u8 (.t 41),
    .fa 43 (.t 1) 1,
    .ld 44 1 false (.t 43),
    .bin 45 .shr .num (.t 44) (.c (.d (.i .u64 8))),
    .cvi 46 .u8 (.t 45),
    .kill [40, 41, 43, 44, 45],
    .fa 47 (.t 1) 1,
    .ld 48 1 false (.t 47),
    .cvi 49 .u8 (.t 48),
    .bs 50 .u8 false 7 [.d (.u 0)] [(0, (.t 29)), (1, (.t 31)), (2, (.t 35)), (3, (.t 39)), (4, (.t 42)), (5, (.t 46)), (6, (.t 49))],
    .kill [1, 29, 31, 35, 39, 42, 46, 47, 48, 49],
    .mv 5 (.t 50),
    .keep [5, 3],
    .drop [65]])
  (.seq (.r [.mv 51 (.t 5),
    .mv 52 (.t 3),
    .app 53 .u8 false 1 (.t 51) (.t 52),
    .mv 2 (.t 53),
    .ren 117 66,
    .keep [2],
    .drop [114, 117]])
  (.ret))))))⟩
def weqReq_m : Fn := ⟨2, [.t 4], false,
  .seq (.r [.bx 2 TReq true (.t 0),
    .bx 3 TReq true (.t 1),
    .mv 4 (.c (.d (.b false))),
    .keep [3, 2]])
  (.seq (.seq (.r [.fa 5 (.t 2) 0,
    .ld 6 1 false (.t 5),
    .fa 7 (.t 3) 0,
    .ld 8 1 false (.t 7),
    .bin 9 .neq .num (.t 6) (.t 8),
    .keep [9, 3, 2]])
  (.cond (.t 9)
    (.pre [.keep [], .drop [66, 67]] (.seq (.r [.mv 4 (.c (.d (.b false)))])
    (.ret)))
    (.pre [.kill [9]] (.skip))))
  (.seq (.seq (.r [.fa 10 (.t 2) 1,
    .ld 11 1 false (.t 10),
    .fa 12 (.t 3) 1,
    .ld 13 1 false (.t 12),
    .bin 14 .neq .num (.t 11) (.t 13),
    .keep [14, 3, 2]])
  (.cond (.t 14)
    (.pre [.keep [], .drop [66, 67]] (.seq (.r [.mv 4 (.c (.d (.b false)))])
    (.ret)))
    (.pre [.kill [14]] (.skip))))
  (.seq (.seq (.r [.fa 15 (.t 2) 2,
    .ld 16 1 false (.t 15),
    .fa 17 (.t 3) 2,
    .ld 18 1 false (.t 17),
    .call 19 true [] (.c (.clo weqHeadS [])) [(.t 16), (.t 18)],
    .not 20 (.t 19),
    .keep [20, 3, 2]])
  (.cond (.t 20)
    (.pre [.keep [], .drop [66, 67]] (.seq (.r [.mv 4 (.c (.d (.b false)))])
    (.ret)))
    (.pre [.kill [20]] (.skip))))
  (.seq (.seq (.r [.fa 21 (.t 2) 3,
    .ld 22 1 false (.t 21),
    .fa 23 (.t 3) 3,
    .ld 24 1 false (.t 23),
    .bin 25 .neq .num (.t 22) (.t 24),
    .keep [25],
    .drop [66, 67]])
  (.cond (.t 25)
    (.pre [.keep []] (.seq (.r [.mv 4 (.c (.d (.b false)))])
    (.ret)))
    (.pre [.keep []] (.skip))))
  (.seq (.r [.mv 4 (.c (.d (.b true)))])
  (.ret))))))⟩
def wmarkReq_m : Fn := ⟨2, [.t 4], false,
  .seq (.r [.bxl 2 TReq (.t 0),
    .mv 4 (.c (.d (.i .i64 0))),
    .kill [0, 4]])
  (.seq (.r [.fa 5 (.t 2) 2,
    .ld 6 1 false (.t 5),
    .mv 7 (.t 1),
    .call 8 true [0] (.c (.clo wmarkHeadS [])) [(.t 6), (.t 7)],
    .kill [1, 2, 5, 6, 7],
    .mv 1 (.t 8),
    .keep [1],
    .drop [66]])
  (.seq (.r [.mv 9 (.t 1),
    .mv 4 (.t 9),
    .keep [4]])
  (.ret)))⟩
/-- live: [0, 1, 5]; objects: [] -/
def wszHeadS_l0 : C :=
  .seq (.seq (.r [.mv 12 (.t 5),
      .mv 13 (.t 0),
      .len 14 (.t 13),
      .bin 15 .lss .num (.t 12) (.t 14),
      .kill [12, 13, 14]])
    (.cond (.t 15)
      (.pre [.kill [15]] (.skip))
      (.pre [.keep [1]] (.ex 0))))
    (.seq (.blk 1 (.seq (.r [.mv 18 (.t 0),
      .mv 19 (.t 5),
      .ia 20 2 (.t 18) (.t 19),
      .ld 21 2 true (.t 20),
      .mv 22 (.t 1),
      .call 23 true [] (.c (.clo wszHead [])) [(.t 21), (.t 22)],
      .kill [1, 18, 19, 20, 21, 22],
      .mv 1 (.t 23),
      .keep [5, 1, 0]])
    (.seq (.r [.mv 24 (.t 1),
      .bin 25 .lss .num (.t 24) (.c (.d (.i .i64 0))),
      .kill [24]])
    (.cond (.t 25)
      (.pre [.keep []] (.seq (.r [.mv 4 (.c (.d (.i .i64 (-1))))])
      (.ret)))
      (.pre [.kill [25]] (.skip))))))
    (.r [.mv 16 (.t 5),
      .bin 17 .add .num (.t 16) (.c (.d (.i .i64 1))),
      .mv 5 (.t 17),
      .kill [16, 17]]))
def wszHeadS_m : Fn := ⟨2, [.t 4], false,
  .seq (.r [.mv 4 (.c (.d (.i .i64 0))),
    .kill [4]])
  (.seq (.r [.mv 6 (.t 1),
    .mv 7 (.t 0),
    .len 8 (.t 7),
    .bin 9 .sub .num (.t 6) (.t 8),
    .mv 1 (.t 9),
    .keep [1, 0]])
  (.seq (.seq (.r [.mv 10 (.t 1),
    .bin 11 .lss .num (.t 10) (.c (.d (.i .i64 0))),
    .kill [10]])
  (.cond (.t 11)
    (.pre [.keep []] (.seq (.r [.mv 4 (.c (.d (.i .i64 (-1))))])
    (.ret)))
    (.pre [.kill [11]] (.skip))))
  (.seq (.seq (.r [.mv 5 (.c (.d (.i .i64 0)))])
  (.blk 0 (.pre [.keep [5, 1, 0]] (.loop wszHeadS_l0))))
  (.seq (.r [.mv 26 (.t 1),
    .mv 4 (.t 26),
    .keep [4]])
  (.ret)))))⟩
def sl3Put_m : Fn := ⟨3, [.t 6], false,
  .seq (.r [.bx 3 TReq true (.t 0),
    .mv 6 (.c (.nil .u8)),
    .opn 6 6 false,
    .kill [0, 6],
    .drop [70]])
  (.seq (.post (.r [.fa 8 (.t 3) 0,
    .ld 9 1 false (.t 8),
    .bin 10 .add .num (.t 9) (.c (.d (.s [32]))),
    .fa 11 (.t 3) 1,
    .ld 12 1 false (.t 11),
    .bin 13 .add .num (.t 10) (.t 12),
    .bin 14 .add .num (.t 13) (.c (.d (.s [32, 72, 84, 84, 80, 47, 49, 46, 49]))),
    .bin 15 .add .num (.t 14) (.c (.d (.s [13, 10]))),
    .fa 16 (.t 3) 2,
    .ld 17 1 false (.t 16),
    .call 18 true [] (.c (.clo sl3HeadsText [])) [(.t 17)],
    .bin 19 .add .num (.t 15) (.t 18),
    .mv 20 (.t 1),
    .bin 21 .add .num (.t 19) (.t 20),
    .bin 22 .add .num (.t 21) (.c (.d (.s [13, 10]))),
    .mv 7 (.t 22)]) [.keep [7, 3, 2]])
  (.seq (.seq (.r [.ld 23 4 true (.t 3),
    .call 24 true [] (.c (.clo sReqOk [])) [(.t 23)],
    .not 25 (.t 24),
    .mv 26 (.t 25),
    .gd 26 false (some 27) (.mv 27 (.t 7)),
    .gd 26 false (some 28) (.lns 28 (.t 27)),
    .kill [3, 23, 24, 25, 27],
    .gd 26 false (some 29) (.bin 29 .gtr .num (.t 28) (.c (.d (.i .i64 400)))),
    .pick 30 (.t 26) (.c (.d (.b true))) (.t 29),
    .keep [30, 7, 2],
    .drop [67]])
  (.cond (.t 30)
    (.pre [.keep []] (.seq (.r [.bs 31 .u8 false 0 [.d (.u 0)] [],
      .mv 6 (.t 31),
      .ren 95 70,
      .kill [31],
      .drop [95]])
    (.ret)))
    (.pre [.kill [30]] (.skip))))
  (.seq (.r [.mv 32 (.t 7),
    .mv 33 (.t 2),
    .bin 34 .add .num (.t 32) (.t 33),
    .s2b 35 (.t 34),
    .kill [2, 7, 32, 33, 34],
    .mv 6 (.t 35),
    .ren 99 70,
    .keep [6],
    .drop [99]])
  (.ret))))⟩
/-- live: [0, 3]; objects: [] -/
def sNumText_l0 : C :=
  .seq (.seq (.r [.mv 12 (.t 0),
      .bin 13 .gtr .num (.t 12) (.c (.d (.i .i64 9))),
      .kill [12]])
    (.cond (.t 13)
      (.pre [.kill [13]] (.skip))
      (.pre [.keep [3]] (.ex 0))))
    (.blk 1 (.seq (.r [.mv 14 (.t 0),
      .bin 15 .quo .num (.t 14) (.c (.d (.i .i64 10))),
      .mv 0 (.t 15),
      .kill [14, 15]])
    (.r [.mv 16 (.t 0),
      .bin 17 .rem .num (.t 16) (.c (.d (.i .i64 10))),
      .bin 18 .add .num (.c (.d (.i .i64 48))) (.t 17),
      .cvi 19 .u8 (.t 18),
      .bs 20 .u8 false 1 [.d (.u 0)] [(0, (.t 19))],
      .b2s 21 (.t 20),
      .kill [16, 17, 18, 19, 20],
      .mv 22 (.t 3),
      .bin 23 .add .num (.t 21) (.t 22),
      .mv 3 (.t 23),
      .keep [3, 0],
      .drop [84]])))
def sNumText_m : Fn := ⟨1, [.t 2], false,
  .seq (.r [.mv 2 (.c (.d (.s []))),
    .kill [2]])
  (.seq (.seq (.r [.mv 4 (.t 0),
    .bin 5 .lss .num (.t 4) (.c (.d (.i .i64 0))),
    .kill [4]])
  (.cond (.t 5)
    (.pre [.keep []] (.r [.mv 0 (.c (.d (.i .i64 0)))]))
    (.pre [.kill [5]] (.skip))))
  (.seq (.r [.mv 6 (.t 0),
    .bin 7 .rem .num (.t 6) (.c (.d (.i .i64 10))),
    .bin 8 .add .num (.c (.d (.i .i64 48))) (.t 7),
    .cvi 9 .u8 (.t 8),
    .bs 10 .u8 false 1 [.d (.u 0)] [(0, (.t 9))],
    .b2s 11 (.t 10),
    .kill [6, 7, 8, 9, 10],
    .mv 3 (.t 11),
    .keep [3, 0],
    .drop [74]])
  (.seq (.blk 0 (.pre [.keep [3, 0]] (.loop sNumText_l0)))
  (.seq (.r [.mv 24 (.t 3),
    .mv 2 (.t 24),
    .keep [2]])
  (.ret)))))⟩
/-- live: [0, 3, 4]; objects: [71] -/
def wtoHeadS_l0 : C :=
  .seq (.seq (.r [.mv 8 (.t 4),
      .mv 9 (.t 0),
      .len 10 (.t 9),
      .bin 11 .lss .num (.t 8) (.t 10),
      .kill [8, 9, 10]])
    (.cond (.t 11)
      (.pre [.kill [11]] (.skip))
      (.pre [.keep [3]] (.ex 0))))
    (.seq (.blk 1 (.r [.mv 14 (.t 3),
      .mv 15 (.t 4),
      .mv 16 (.t 0),
      .mv 17 (.t 4),
      .ia 18 2 (.t 16) (.t 17),
      .ld 19 2 true (.t 18),
      .call 20 true [] (.c (.clo wtoHead [])) [(.t 19)],
      .ia 21 2 (.t 14) (.t 15),
      .kill [14, 15, 16, 17, 18, 19],
      .st 2 (.t 21) (.t 20),
      .keep [4, 3, 0]]))
    (.r [.mv 12 (.t 4),
      .bin 13 .add .num (.t 12) (.c (.d (.i .i64 1))),
      .mv 4 (.t 13),
      .kill [12, 13]]))
def wtoHeadS_m : Fn := ⟨1, [.t 2], false,
  .seq (.r [.mv 2 (.c (.nil THead)),
    .opn 2 2 false,
    .kill [2],
    .drop [66]])
  (.seq (.r [.mv 5 (.t 0),
    .len 6 (.t 5),
    .mk 7 THead 32 (.t 6),
    .mv 3 (.t 7),
    .keep [3, 0]])
  (.seq (.seq (.r [.mv 4 (.c (.d (.i .i64 0)))])
  (.blk 0 (.pre [.keep [4, 3, 0]] (.loop wtoHeadS_l0))))
  (.seq (.r [.mv 22 (.t 3),
    .mv 2 (.t 22),
    .ren 71 66,
    .keep [2],
    .drop [71]])
  (.ret))))⟩
def iPutReq_m : Fn := ⟨1, [.t 2], false,
  .seq (.r [.bx 1 TReq true (.t 0),
    .mv 2 (.c (.nil .u8)),
    .opn 2 2 false,
    .keep [1],
    .drop [66]])
  (.seq (.r [.mv 3 (.c (.d (.s [])))])
  (.seq (.seq (.r [.fa 4 (.t 1) 3,
    .ld 5 1 false (.t 4),
    .bin 6 .neq .num (.t 5) (.c (.d (.s []))),
    .kill [4, 5]])
  (.cond (.t 6)
    (.pre [.keep [1]] (.r [.fa 7 (.t 1) 3,
      .ld 8 1 false (.t 7),
      .call 9 true [] (.c (.clo ilengthText [])) [(.t 8)],
      .mv 3 (.t 9),
      .keep [3, 1]]))
    (.pre [.kill [6]] (.skip))))
  (.seq (.r [.ld 10 4 true (.t 1),
    .mv 11 (.t 3),
    .fa 12 (.t 1) 3,
    .ld 13 1 false (.t 12),
    .s2b 14 (.t 13),
    .call 15 false [] (.c (.clo iputReq [])) [(.t 10), (.t 11), (.t 14)],
    .kill [1, 3, 10, 11, 12, 13, 14],
    .mv 2 (.t 15),
    .ren 16064 66,
    .keep [2],
    .drop [65, 78, 16064]])
  (.ret))))⟩
def iin_m : Fn := ⟨3, [.t 6], false,
  .seq (.r [.mv 6 (.c (.d (.b false))),
    .kill [6]])
  (.seq (.r [.mv 7 (.t 0),
    .mv 8 (.t 1),
    .bin 9 .geq .num (.t 7) (.t 8),
    .mv 10 (.t 9),
    .gd 10 true (some 11) (.mv 11 (.t 0)),
    .kill [0, 1, 7, 8, 9],
    .gd 10 true (some 12) (.mv 12 (.t 2)),
    .gd 10 true (some 13) (.bin 13 .leq .num (.t 11) (.t 12)),
    .pick 14 (.t 10) (.t 13) (.c (.d (.b false))),
    .kill [2, 10, 11, 12, 13],
    .mv 6 (.t 14),
    .keep [6]])
  (.ret))⟩
/-- live: [0, 1, 5]; objects: [] -/
def weqHeadS_l0 : C :=
  .seq (.seq (.r [.mv 11 (.t 5),
      .mv 12 (.t 0),
      .len 13 (.t 12),
      .bin 14 .lss .num (.t 11) (.t 13),
      .kill [11, 12, 13]])
    (.cond (.t 14)
      (.pre [.kill [14]] (.skip))
      (.pre [.keep []] (.ex 0))))
    (.seq (.blk 1 (.seq (.post (.r [.mv 17 (.t 0),
      .mv 18 (.t 5),
      .ia 19 2 (.t 17) (.t 18),
      .ld 20 2 true (.t 19),
      .mv 21 (.t 1),
      .mv 22 (.t 5),
      .ia 23 2 (.t 21) (.t 22),
      .ld 24 2 true (.t 23),
      .call 25 true [] (.c (.clo weqHead [])) [(.t 20), (.t 24)],
      .not 26 (.t 25)]) [.keep [26, 5, 1, 0]])
    (.cond (.t 26)
      (.pre [.keep []] (.seq (.r [.mv 4 (.c (.d (.b false)))])
      (.ret)))
      (.pre [.kill [26]] (.skip)))))
    (.r [.mv 15 (.t 5),
      .bin 16 .add .num (.t 15) (.c (.d (.i .i64 1))),
      .mv 5 (.t 16),
      .kill [15, 16]]))
def weqHeadS_m : Fn := ⟨2, [.t 4], false,
  .seq (.r [.mv 4 (.c (.d (.b false))),
    .kill [4]])
  (.seq (.seq (.r [.mv 6 (.t 0),
    .len 7 (.t 6),
    .mv 8 (.t 1),
    .len 9 (.t 8),
    .bin 10 .neq .num (.t 7) (.t 9),
    .keep [10, 1, 0]])
  (.cond (.t 10)
    (.pre [.keep []] (.seq (.r [.mv 4 (.c (.d (.b false)))])
    (.ret)))
    (.pre [.kill [10]] (.skip))))
  (.seq (.seq (.r [.mv 5 (.c (.d (.i .i64 0)))])
  (.blk 0 (.pre [.keep [5, 1, 0]] (.loop weqHeadS_l0))))
  (.seq (.r [.mv 4 (.c (.d (.b true)))])
  (.ret))))⟩
/-- live: [0, 1, 5]; objects: [0] -/
def wmarkHeadS_l0 : C :=
  .seq (.seq (.r [.mv 6 (.t 5),
      .mv 7 (.t 0),
      .len 8 (.t 7),
      .bin 9 .lss .num (.t 6) (.t 8),
      .kill [6, 7, 8]])
    (.cond (.t 9)
      (.pre [.kill [9]] (.skip))
      (.pre [.keep [1]] (.ex 0))))
    (.seq (.blk 1 (.seq (.r [.mv 12 (.t 0),
      .mv 13 (.t 5),
      .mv 14 (.t 1),
      .call 15 true [] (.c (.clo wmarkText [])) [(.t 14)],
      .ia 16 2 (.t 12) (.t 13),
      .fa 17 (.t 16) 0,
      .st 1 (.t 17) (.t 15),
      .keep [5, 1, 0]])
    (.seq (.r [.mv 18 (.t 1),
      .bin 19 .add .num (.t 18) (.c (.d (.i .i64 1))),
      .mv 1 (.t 19),
      .kill [18, 19]])
    (.seq (.r [.mv 20 (.t 0),
      .mv 21 (.t 5),
      .mv 22 (.t 1),
      .call 23 true [] (.c (.clo wmarkText [])) [(.t 22)],
      .ia 24 2 (.t 20) (.t 21),
      .fa 25 (.t 24) 1,
      .st 1 (.t 25) (.t 23),
      .keep [5, 1, 0]])
    (.r [.mv 26 (.t 1),
      .bin 27 .add .num (.t 26) (.c (.d (.i .i64 1))),
      .mv 1 (.t 27),
      .kill [26, 27]])))))
    (.r [.mv 10 (.t 5),
      .bin 11 .add .num (.t 10) (.c (.d (.i .i64 1))),
      .mv 5 (.t 11),
      .kill [10, 11]]))
def wmarkHeadS_m : Fn := ⟨2, [.t 4], false,
  .seq (.r [.mv 4 (.c (.d (.i .i64 0))),
    .kill [4]])
  (.seq (.seq (.r [.mv 5 (.c (.d (.i .i64 0)))])
  (.blk 0 (.pre [.keep [5, 1, 0]] (.loop wmarkHeadS_l0))))
  (.seq (.r [.mv 28 (.t 1),
    .mv 4 (.t 28),
    .keep [4]])
  (.ret)))⟩
def wszHead_m : Fn := ⟨2, [.t 4], false,
  .seq (.r [.bx 2 THead false (.t 0),
    .mv 4 (.c (.d (.i .i64 0))),
    .kill [0, 4]])
  (.seq (.r [.mv 5 (.t 1),
    .fa 6 (.t 2) 0,
    .ld 7 1 false (.t 6),
    .lns 8 (.t 7),
    .bin 9 .sub .num (.t 5) (.t 8),
    .kill [1, 5, 6, 7, 8],
    .mv 1 (.t 9),
    .keep [2, 1]])
  (.seq (.seq (.r [.mv 10 (.t 1),
    .bin 11 .lss .num (.t 10) (.c (.d (.i .i64 0))),
    .kill [10]])
  (.cond (.t 11)
    (.pre [.keep [], .drop [66]] (.seq (.r [.mv 4 (.c (.d (.i .i64 (-1))))])
    (.ret)))
    (.pre [.kill [11]] (.skip))))
  (.seq (.r [.mv 12 (.t 1),
    .fa 13 (.t 2) 1,
    .ld 14 1 false (.t 13),
    .lns 15 (.t 14),
    .bin 16 .sub .num (.t 12) (.t 15),
    .kill [1, 2, 12, 13, 14, 15],
    .mv 1 (.t 16),
    .keep [1],
    .drop [66]])
  (.seq (.seq (.r [.mv 17 (.t 1),
    .bin 18 .lss .num (.t 17) (.c (.d (.i .i64 0))),
    .kill [17]])
  (.cond (.t 18)
    (.pre [.keep []] (.seq (.r [.mv 4 (.c (.d (.i .i64 (-1))))])
    (.ret)))
    (.pre [.kill [18]] (.skip))))
  (.seq (.r [.mv 19 (.t 1),
    .mv 4 (.t 19),
    .keep [4]])
  (.ret))))))⟩
/-- live: [0, 3, 4]; objects: [] -/
def sl3HeadsText_l0 : C :=
  .seq (.seq (.r [.mv 5 (.t 4),
      .mv 6 (.t 0),
      .len 7 (.t 6),
      .bin 8 .lss .num (.t 5) (.t 7),
      .kill [5, 6, 7]])
    (.cond (.t 8)
      (.pre [.kill [8]] (.skip))
      (.pre [.keep [3]] (.ex 0))))
    (.seq (.blk 1 (.post (.r [.mv 11 (.t 3),
      .mv 12 (.t 0),
      .mv 13 (.t 4),
      .ia 14 2 (.t 12) (.t 13),
      .fa 15 (.t 14) 0,
      .ld 16 1 false (.t 15),
      .bin 17 .add .num (.t 11) (.t 16),
      .bin 18 .add .num (.t 17) (.c (.d (.s [58, 32]))),
      .mv 19 (.t 0),
      .mv 20 (.t 4),
      .ia 21 2 (.t 19) (.t 20),
      .fa 22 (.t 21) 1,
      .ld 23 1 false (.t 22),
      .bin 24 .add .num (.t 18) (.t 23),
      .bin 25 .add .num (.t 24) (.c (.d (.s [13, 10]))),
      .mv 3 (.t 25)]) [.keep [4, 3, 0]]))
    (.r [.mv 9 (.t 4),
      .bin 10 .add .num (.t 9) (.c (.d (.i .i64 1))),
      .mv 4 (.t 10),
      .kill [9, 10]]))
def sl3HeadsText_m : Fn := ⟨1, [.t 2], false,
  .seq (.r [.mv 2 (.c (.d (.s []))),
    .kill [2]])
  (.seq (.r [.mv 3 (.c (.d (.s [])))])
  (.seq (.seq (.r [.mv 4 (.c (.d (.i .i64 0)))])
  (.blk 0 (.pre [.keep [4, 3, 0]] (.loop sl3HeadsText_l0))))
  (.seq (.r [.mv 26 (.t 3),
    .mv 2 (.t 26),
    .keep [2]])
  (.ret))))⟩
def sReqOk_m : Fn := ⟨1, [.t 2], false,
  .seq (.r [.bx 1 TReq true (.t 0),
    .mv 2 (.c (.d (.b false))),
    .keep [1]])
  (.seq (.r [.fa 3 (.t 1) 0,
    .ld 4 1 false (.t 3),
    .call 5 true [] (.c (.clo sl3Method [])) [(.t 4)],
    .mv 6 (.t 5),
    .gd 6 true (some 7) (.fa 7 (.t 1) 1),
    .gd 6 true (some 8) (.ld 8 1 false (.t 7)),
    .gd 6 true (some 9) (.call 9 true [] (.c (.clo sl3Target [])) [(.t 8)]),
    .kill [3, 4, 5, 7, 8],
    .pick 10 (.t 6) (.t 9) (.c (.d (.b false))),
    .mv 11 (.t 10),
    .gd 11 true (some 12) (.fa 12 (.t 1) 2),
    .gd 11 true (some 13) (.ld 13 1 false (.t 12)),
    .gd 11 true (some 14) (.call 14 true [] (.c (.clo sl3Heads [])) [(.t 13)]),
    .kill [6, 9, 10, 12, 13],
    .pick 15 (.t 11) (.t 14) (.c (.d (.b false))),
    .mv 16 (.t 15),
    .gd 16 true (some 17) (.fa 17 (.t 1) 3),
    .gd 16 true (some 18) (.ld 18 1 false (.t 17)),
    .kill [1, 11, 14, 15, 17],
    .gd 16 true (some 19) (.lns 19 (.t 18)),
    .gd 16 true (some 20) (.bin 20 .leq .num (.t 19) (.c (.d (.i .i64 200)))),
    .pick 21 (.t 16) (.t 20) (.c (.d (.b false))),
    .mv 2 (.t 21),
    .keep [2],
    .drop [65]])
  (.ret))⟩
def wtoHead_m : Fn := ⟨1, [.cell 2 2 true], false,
  .seq (.r [.bx 1 THead false (.t 0),
    .al 2 THead false,
    .kill [0]])
  (.seq (.r [.al 3 THead false])
  (.seq (.r [.fa 4 (.t 1) 0,
    .ld 5 1 false (.t 4),
    .fa 6 (.t 3) 0,
    .st 1 (.t 6) (.t 5),
    .kill [4, 5, 6]])
  (.seq (.r [.fa 7 (.t 1) 1,
    .ld 8 1 false (.t 7),
    .fa 9 (.t 3) 1,
    .st 1 (.t 9) (.t 8),
    .keep [3, 2],
    .drop [65]])
  (.seq (.r [.ld 10 2 true (.t 3),
    .st 2 (.t 2) (.t 10),
    .keep [2],
    .drop [67]])
  (.ret)))))⟩
def ilengthText_m : Fn := ⟨1, [.t 2], false,
  .seq (.r [.mv 2 (.c (.d (.s []))),
    .kill [2]])
  (.seq (.r [.mv 3 (.t 0),
    .lns 4 (.t 3),
    .call 5 true [] (.c (.clo iNumText [])) [(.t 4)],
    .bin 6 .add .num (.c (.d (.s [99, 111, 110, 116, 101, 110, 116, 45, 108, 101, 110, 103, 116, 104, 58, 32]))) (.t 5),
    .bin 7 .add .num (.t 6) (.c (.d (.s [13, 10]))),
    .kill [0, 3, 4, 5, 6],
    .mv 2 (.t 7),
    .keep [2]])
  (.ret))⟩
def iputReq_m : Fn := ⟨3, [.t 6], false,
  .seq (.r [.bx 3 TReq true (.t 0),
    .mv 6 (.c (.nil .u8)),
    .opn 6 6 false,
    .kill [0, 6],
    .drop [70]])
  (.seq (.post (.r [.fa 8 (.t 3) 0,
    .ld 9 1 false (.t 8),
    .bin 10 .add .num (.t 9) (.c (.d (.s [32]))),
    .fa 11 (.t 3) 1,
    .ld 12 1 false (.t 11),
    .bin 13 .add .num (.t 10) (.t 12),
    .bin 14 .add .num (.t 13) (.c (.d (.s [32, 72, 84, 84, 80, 47, 49, 46, 49]))),
    .bin 15 .add .num (.t 14) (.c (.d (.s [13, 10]))),
    .fa 16 (.t 3) 2,
    .ld 17 1 false (.t 16),
    .call 18 true [] (.c (.clo iheadText [])) [(.t 17)],
    .bin 19 .add .num (.t 15) (.t 18),
    .mv 20 (.t 1),
    .bin 21 .add .num (.t 19) (.t 20),
    .bin 22 .add .num (.t 21) (.c (.d (.s [13, 10]))),
    .mv 7 (.t 22)]) [.keep [7, 3, 2]])
  (.seq (.seq (.r [.ld 23 4 true (.t 3),
    .call 24 true [] (.c (.clo iReqOk [])) [(.t 23)],
    .not 25 (.t 24),
    .mv 26 (.t 25),
    .gd 26 false (some 27) (.mv 27 (.t 7)),
    .gd 26 false (some 28) (.lns 28 (.t 27)),
    .kill [3, 23, 24, 25, 27],
    .gd 26 false (some 29) (.bin 29 .gtr .num (.t 28) (.c (.d (.i .i64 400)))),
    .pick 30 (.t 26) (.c (.d (.b true))) (.t 29),
    .keep [30, 7, 2],
    .drop [67]])
  (.cond (.t 30)
    (.pre [.keep []] (.seq (.r [.mv 6 (.c (.nil .u8)),
      .opn 6 6 false])
    (.ret)))
    (.pre [.kill [30]] (.skip))))
  (.seq (.r [.mv 31 (.t 7),
    .s2b 32 (.t 31),
    .mv 33 (.t 2),
    .app 34 .u8 false 1 (.t 32) (.t 33),
    .kill [2, 7, 31, 32, 33],
    .mv 6 (.t 34),
    .ren 98 70,
    .keep [6],
    .drop [96, 98]])
  (.ret))))⟩
def weqHead_m : Fn := ⟨2, [.t 4], false,
  .seq (.r [.bx 2 THead false (.t 0),
    .bx 3 THead false (.t 1),
    .mv 4 (.c (.d (.b false))),
    .keep [3, 2]])
  (.seq (.seq (.r [.fa 5 (.t 2) 0,
    .ld 6 1 false (.t 5),
    .fa 7 (.t 3) 0,
    .ld 8 1 false (.t 7),
    .bin 9 .neq .num (.t 6) (.t 8),
    .keep [9, 3, 2]])
  (.cond (.t 9)
    (.pre [.keep [], .drop [66, 67]] (.seq (.r [.mv 4 (.c (.d (.b false)))])
    (.ret)))
    (.pre [.kill [9]] (.skip))))
  (.seq (.seq (.r [.fa 10 (.t 2) 1,
    .ld 11 1 false (.t 10),
    .fa 12 (.t 3) 1,
    .ld 13 1 false (.t 12),
    .bin 14 .neq .num (.t 11) (.t 13),
    .keep [14],
    .drop [66, 67]])
  (.cond (.t 14)
    (.pre [.keep []] (.seq (.r [.mv 4 (.c (.d (.b false)))])
    (.ret)))
    (.pre [.keep []] (.skip))))
  (.seq (.r [.mv 4 (.c (.d (.b true)))])
  (.ret))))⟩
/-- live: [0, 3]; objects: [] -/
def wmarkText_l0 : C :=
  .seq (.seq (.r [.mv 6 (.t 0),
      .bin 7 .gtr .num (.t 6) (.c (.d (.i .i64 0))),
      .kill [6]])
    (.cond (.t 7)
      (.pre [.kill [7]] (.skip))
      (.pre [.keep [3]] (.ex 0))))
    (.blk 1 (.seq (.r [.mv 8 (.t 0),
      .bin 9 .rem .num (.t 8) (.c (.d (.i .i64 10))),
      .bin 10 .add .num (.c (.d (.i .i64 48))) (.t 9),
      .cvi 11 .u8 (.t 10),
      .bs 12 .u8 false 1 [.d (.u 0)] [(0, (.t 11))],
      .b2s 13 (.t 12),
      .kill [8, 9, 10, 11, 12],
      .mv 14 (.t 3),
      .bin 15 .add .num (.t 13) (.t 14),
      .mv 3 (.t 15),
      .keep [3, 0],
      .drop [76]])
    (.r [.mv 16 (.t 0),
      .bin 17 .quo .num (.t 16) (.c (.d (.i .i64 10))),
      .mv 0 (.t 17),
      .kill [16, 17]])))
def wmarkText_m : Fn := ⟨1, [.t 2], false,
  .seq (.r [.mv 2 (.c (.d (.s []))),
    .kill [2]])
  (.seq (.seq (.r [.mv 4 (.t 0),
    .bin 5 .leq .num (.t 4) (.c (.d (.i .i64 0))),
    .kill [4]])
  (.cond (.t 5)
    (.pre [.keep []] (.seq (.r [.mv 2 (.c (.d (.s [109, 48])))])
    (.ret)))
    (.pre [.kill [5]] (.skip))))
  (.seq (.r [.mv 3 (.c (.d (.s [])))])
  (.seq (.blk 0 (.pre [.keep [3, 0]] (.loop wmarkText_l0)))
  (.seq (.r [.mv 18 (.t 3),
    .bin 19 .add .num (.c (.d (.s [109]))) (.t 18),
    .mv 2 (.t 19),
    .keep [2]])
  (.ret)))))⟩
/-- live: [0, 3]; objects: [] -/
def sl3Method_l0 : C :=
  .seq (.seq (.r [.mv 4 (.t 3),
      .mv 5 (.t 0),
      .lns 6 (.t 5),
      .bin 7 .lss .num (.t 4) (.t 6),
      .kill [4, 5, 6]])
    (.cond (.t 7)
      (.pre [.kill [7]] (.skip))
      (.pre [.keep [0]] (.ex 0))))
    (.seq (.blk 1 (.seq (.r [.mv 10 (.t 0),
      .mv 11 (.t 3),
      .ix 12 (.t 10) (.t 11),
      .call 13 true [] (.c (.clo sl1Large [])) [(.t 12)],
      .not 14 (.t 13),
      .keep [14, 3, 0]])
    (.cond (.t 14)
      (.pre [.keep []] (.seq (.r [.mv 2 (.c (.d (.b false)))])
      (.ret)))
      (.pre [.kill [14]] (.skip)))))
    (.r [.mv 8 (.t 3),
      .bin 9 .add .num (.t 8) (.c (.d (.i .i64 1))),
      .mv 3 (.t 9),
      .kill [8, 9]]))
def sl3Method_m : Fn := ⟨1, [.t 2], false,
  .seq (.r [.mv 2 (.c (.d (.b false))),
    .kill [2]])
  (.seq (.seq (.r [.mv 3 (.c (.d (.i .i64 0)))])
  (.blk 0 (.pre [.keep [3, 0]] (.loop sl3Method_l0))))
  (.seq (.r [.mv 15 (.t 0),
    .lns 16 (.t 15),
    .call 17 true [] (.c (.clo sl1In [])) [(.t 16), (.c (.d (.i .i64 1))), (.c (.d (.i .i64 9)))],
    .mv 2 (.t 17),
    .keep [2]])
  (.ret)))⟩
/-- live: [0, 3]; objects: [] -/
def sl3Target_l0 : C :=
  .seq (.seq (.r [.mv 4 (.t 3),
      .mv 5 (.t 0),
      .lns 6 (.t 5),
      .bin 7 .lss .num (.t 4) (.t 6),
      .kill [4, 5, 6]])
    (.cond (.t 7)
      (.pre [.kill [7]] (.skip))
      (.pre [.keep [0]] (.ex 0))))
    (.seq (.blk 1 (.seq (.r [.mv 10 (.t 0),
      .mv 11 (.t 3),
      .ix 12 (.t 10) (.t 11),
      .cvi 13 .i64 (.t 12),
      .call 14 true [] (.c (.clo sl1In [])) [(.t 13), (.c (.d (.i .i64 33))), (.c (.d (.i .i64 126)))],
      .not 15 (.t 14),
      .keep [15, 3, 0]])
    (.cond (.t 15)
      (.pre [.keep []] (.seq (.r [.mv 2 (.c (.d (.b false)))])
      (.ret)))
      (.pre [.kill [15]] (.skip)))))
    (.r [.mv 8 (.t 3),
      .bin 9 .add .num (.t 8) (.c (.d (.i .i64 1))),
      .mv 3 (.t 9),
      .kill [8, 9]]))
def sl3Target_m : Fn := ⟨1, [.t 2], false,
  .seq (.r [.mv 2 (.c (.d (.b false))),
    .kill [2]])
  (.seq (.seq (.r [.mv 3 (.c (.d (.i .i64 0)))])
  (.blk 0 (.pre [.keep [3, 0]] (.loop sl3Target_l0))))
  (.seq (.r [.mv 16 (.t 0),
    .lns 17 (.t 16),
    .call 18 true [] (.c (.clo sl1In [])) [(.t 17), (.c (.d (.i .i64 1))), (.c (.d (.i .i64 80)))],
    .mv 2 (.t 18),
    .keep [2]])
  (.ret)))⟩
/-- live: [0, 3]; objects: [] -/
def sl3Heads_l0 : C :=
  .seq (.seq (.r [.mv 4 (.t 3),
      .mv 5 (.t 0),
      .len 6 (.t 5),
      .bin 7 .lss .num (.t 4) (.t 6),
      .kill [4, 5, 6]])
    (.cond (.t 7)
      (.pre [.kill [7]] (.skip))
      (.pre [.keep [0]] (.ex 0))))
    (.seq (.blk 1 (.seq (.r [.mv 10 (.t 0),
      .mv 11 (.t 3),
      .ia 12 2 (.t 10) (.t 11),
      .fa 13 (.t 12) 0,
      .ld 14 1 false (.t 13),
      .call 15 true [] (.c (.clo sSmallName [])) [(.t 14)],
      .kill [10, 11, 12, 13, 14],
      .not 16 (.t 15),
      .mv 17 (.t 16),
      .gd 17 false (some 18) (.mv 18 (.t 0)),
      .gd 17 false (some 19) (.mv 19 (.t 3)),
      .gd 17 false (some 20) (.ia 20 2 (.t 18) (.t 19)),
      .gd 17 false (some 21) (.fa 21 (.t 20) 1),
      .kill [15, 16, 18, 19, 20],
      .gd 17 false (some 22) (.ld 22 1 false (.t 21)),
      .gd 17 false (some 23) (.call 23 true [] (.c (.clo sl3Val [])) [(.t 22)]),
      .gd 17 false (some 24) (.not 24 (.t 23)),
      .pick 25 (.t 17) (.c (.d (.b true))) (.t 24),
      .kill [17, 21, 22, 23, 24],
      .mv 26 (.t 25),
      .gd 26 false (some 27) (.mv 27 (.t 0)),
      .gd 26 false (some 28) (.mv 28 (.t 3)),
      .gd 26 false (some 29) (.ia 29 2 (.t 27) (.t 28)),
      .gd 26 false (some 30) (.fa 30 (.t 29) 0),
      .gd 26 false (some 31) (.ld 31 1 false (.t 30)),
      .kill [25, 27, 28, 29, 30],
      .gd 26 false (some 32) (.bin 32 .eql .num (.t 31) (.c (.d (.s [99, 111, 110, 116, 101, 110, 116, 45, 108, 101, 110, 103, 116, 104])))),
      .pick 33 (.t 26) (.c (.d (.b true))) (.t 32),
      .mv 34 (.t 33),
      .gd 34 false (some 35) (.mv 35 (.t 0)),
      .gd 34 false (some 36) (.mv 36 (.t 3)),
      .gd 34 false (some 37) (.ia 37 2 (.t 35) (.t 36)),
      .kill [26, 31, 32, 33, 35, 36],
      .gd 34 false (some 38) (.fa 38 (.t 37) 0),
      .gd 34 false (some 39) (.ld 39 1 false (.t 38)),
      .gd 34 false (some 40) (.bin 40 .eql .num (.t 39) (.c (.d (.s [116, 114, 97, 110, 115, 102, 101, 114, 45, 101, 110, 99, 111, 100, 105, 110, 103])))),
      .pick 41 (.t 34) (.c (.d (.b true))) (.t 40),
      .keep [41, 3, 0]])
    (.cond (.t 41)
      (.pre [.keep []] (.seq (.r [.mv 2 (.c (.d (.b false)))])
      (.ret)))
      (.pre [.kill [41]] (.skip)))))
    (.r [.mv 8 (.t 3),
      .bin 9 .add .num (.t 8) (.c (.d (.i .i64 1))),
      .mv 3 (.t 9),
      .kill [8, 9]]))
def sl3Heads_m : Fn := ⟨1, [.t 2], false,
  .seq (.r [.mv 2 (.c (.d (.b false))),
    .kill [2]])
  (.seq (.seq (.r [.mv 3 (.c (.d (.i .i64 0)))])
  (.blk 0 (.pre [.keep [3, 0]] (.loop sl3Heads_l0))))
  (.seq (.r [.mv 42 (.t 0),
    .len 43 (.t 42),
    .bin 44 .leq .num (.t 43) (.c (.d (.i .i64 8))),
    .mv 2 (.t 44),
    .keep [2]])
  (.ret)))⟩
def iNumText_m : Fn := ⟨1, [.t 2], false,
  .seq (.r [.mv 2 (.c (.d (.s []))),
    .kill [2]])
  (.seq (.r [.mv 3 (.t 0),
    .mm 4 true (.t 3) (.c (.d (.i .i64 0))),
    .call 5 true [] (.c (.clo x_strconv_Itoa [])) [(.t 4)],
    .mv 2 (.t 5),
    .keep [2]])
  (.ret))⟩
/-- live: [3, 6, 7, 8]; objects: [] -/
def iheadText_l0 : C :=
  .seq (.r [.bin 9 .lss .num (.t 8) (.t 7)])
    (.seq (.cond (.t 9)
      (.pre [.kill [9]] (.skip))
      (.pre [.keep [3]] (.ex 0)))
    (.seq (.blk 1 (.seq (.r [.ia 10 2 (.t 6) (.t 8),
      .ld 11 2 true (.t 10),
      .al 5 THead false,
      .st 2 (.t 5) (.t 11),
      .kill [10, 11]])
    (.r [.mv 12 (.t 3),
      .fa 13 (.t 5) 0,
      .ld 14 1 false (.t 13),
      .bin 15 .add .num (.t 14) (.c (.d (.s [58, 32]))),
      .fa 16 (.t 5) 1,
      .ld 17 1 false (.t 16),
      .kill [3, 5, 13, 14, 16],
      .bin 18 .add .num (.t 15) (.t 17),
      .bin 19 .add .num (.t 18) (.c (.d (.s [13, 10]))),
      .bin 20 .add .num (.t 12) (.t 19),
      .kill [12, 15, 17, 18, 19],
      .mv 3 (.t 20),
      .keep [8, 7, 6, 3],
      .drop [69]])))
    (.r [.bin 21 .add .num (.t 8) (.c (.d (.i .i64 1))),
      .mv 8 (.t 21),
      .kill [21]])))
def iheadText_m : Fn := ⟨1, [.t 2], false,
  .seq (.r [.mv 2 (.c (.d (.s []))),
    .kill [2]])
  (.seq (.r [.mv 3 (.c (.d (.s [])))])
  (.seq (.seq (.r [.mv 6 (.t 0),
    .len 7 (.t 6),
    .mv 8 (.c (.d (.i .i64 0))),
    .kill [0]])
  (.blk 0 (.pre [.keep [8, 7, 6, 3]] (.loop iheadText_l0))))
  (.seq (.r [.mv 22 (.t 3),
    .mv 2 (.t 22),
    .keep [2]])
  (.ret))))⟩
def iReqOk_m : Fn := ⟨1, [.t 2], false,
  .seq (.r [.bx 1 TReq true (.t 0),
    .mv 2 (.c (.d (.b false))),
    .keep [1]])
  (.seq (.r [.fa 3 (.t 1) 0,
    .ld 4 1 false (.t 3),
    .fa 5 (.t 1) 1,
    .ld 6 1 false (.t 5),
    .call 7 true [] (.c (.clo ilineOk [])) [(.t 4), (.t 6)],
    .mv 8 (.t 7),
    .kill [3, 4, 5, 6, 7],
    .gd 8 true (some 9) (.fa 9 (.t 1) 2),
    .gd 8 true (some 10) (.ld 10 1 false (.t 9)),
    .gd 8 true (some 11) (.call 11 true [] (.c (.clo iheadsOk [])) [(.t 10)]),
    .pick 12 (.t 8) (.t 11) (.c (.d (.b false))),
    .mv 13 (.t 12),
    .kill [8, 9, 10, 11, 12],
    .gd 13 true (some 14) (.fa 14 (.t 1) 3),
    .gd 13 true (some 15) (.ld 15 1 false (.t 14)),
    .gd 13 true (some 16) (.lns 16 (.t 15)),
    .gd 13 true (some 17) (.bin 17 .leq .num (.t 16) (.c (.d (.i .i64 200)))),
    .pick 18 (.t 13) (.t 17) (.c (.d (.b false))),
    .kill [1, 13, 14, 15, 16, 17],
    .mv 2 (.t 18),
    .keep [2],
    .drop [65]])
  (.ret))⟩
def sl1Large_m : Fn := ⟨1, [.t 2], false,
  .seq (.r [.mv 2 (.c (.d (.b false))),
    .kill [2]])
  (.seq (.r [.mv 3 (.t 0),
    .cvi 4 .i64 (.t 3),
    .call 5 true [] (.c (.clo sl1In [])) [(.t 4), (.c (.d (.i .i64 65))), (.c (.d (.i .i64 90)))],
    .mv 2 (.t 5),
    .keep [2]])
  (.ret))⟩
/-- live: [0, 3]; objects: [] -/
def sSmallName_l0 : C :=
  .seq (.seq (.r [.mv 4 (.t 3),
      .mv 5 (.t 0),
      .lns 6 (.t 5),
      .bin 7 .lss .num (.t 4) (.t 6),
      .kill [4, 5, 6]])
    (.cond (.t 7)
      (.pre [.kill [7]] (.skip))
      (.pre [.keep [0]] (.ex 0))))
    (.seq (.blk 1 (.seq (.r [.mv 10 (.t 0),
      .mv 11 (.t 3),
      .ix 12 (.t 10) (.t 11),
      .call 13 true [] (.c (.clo sl1Small [])) [(.t 12)],
      .not 14 (.t 13),
      .mv 15 (.t 14),
      .kill [10, 11, 12, 13, 14],
      .gd 15 true (some 16) (.mv 16 (.t 3)),
      .gd 15 true (some 17) (.bin 17 .eql .num (.t 16) (.c (.d (.i .i64 0)))),
      .gd 15 true (some 18) (.mv 18 (.t 17)),
      .gd 18 false (some 19) (.mv 19 (.t 0)),
      .gd 18 false (some 20) (.mv 20 (.t 3)),
      .gd 18 false (some 21) (.ix 21 (.t 19) (.t 20)),
      .gd 18 false (some 22) (.call 22 true [] (.c (.clo sl1Digit [])) [(.t 21)]),
      .kill [16, 17, 19, 20, 21],
      .gd 18 false (some 23) (.not 23 (.t 22)),
      .gd 18 false (some 24) (.mv 24 (.t 23)),
      .gd 24 true (some 25) (.mv 25 (.t 0)),
      .gd 24 true (some 26) (.mv 26 (.t 3)),
      .gd 24 true (some 27) (.ix 27 (.t 25) (.t 26)),
      .gd 24 true (some 28) (.bin 28 .neq .num (.t 27) (.c (.d (.u 45)))),
      .kill [22, 23, 25, 26, 27],
      .gd 18 false (some 29) (.pick 29 (.t 24) (.t 28) (.c (.d (.b false)))),
      .gd 15 true (some 30) (.pick 30 (.t 18) (.c (.d (.b true))) (.t 29)),
      .pick 31 (.t 15) (.t 30) (.c (.d (.b false))),
      .keep [31, 3, 0]])
    (.cond (.t 31)
      (.pre [.keep []] (.seq (.r [.mv 2 (.c (.d (.b false)))])
      (.ret)))
      (.pre [.kill [31]] (.skip)))))
    (.r [.mv 8 (.t 3),
      .bin 9 .add .num (.t 8) (.c (.d (.i .i64 1))),
      .mv 3 (.t 9),
      .kill [8, 9]]))
def sSmallName_m : Fn := ⟨1, [.t 2], false,
  .seq (.r [.mv 2 (.c (.d (.b false))),
    .kill [2]])
  (.seq (.seq (.r [.mv 3 (.c (.d (.i .i64 0)))])
  (.blk 0 (.pre [.keep [3, 0]] (.loop sSmallName_l0))))
  (.seq (.r [.mv 32 (.t 0),
    .lns 33 (.t 32),
    .call 34 true [] (.c (.clo sl1In [])) [(.t 33), (.c (.d (.i .i64 1))), (.c (.d (.i .i64 20)))],
    .mv 2 (.t 34),
    .keep [2]])
  (.ret)))⟩
def sl3Val_m : Fn := ⟨1, [.t 2], false,
  .seq (.r [.mv 2 (.c (.d (.b false))),
    .kill [2]])
  (.seq (.r [.mv 3 (.t 0),
    .lns 4 (.t 3),
    .bin 5 .leq .num (.t 4) (.c (.d (.i .i64 60))),
    .mv 6 (.t 5),
    .gd 6 true (some 7) (.mv 7 (.t 0)),
    .gd 6 true (some 8) (.call 8 true [] (.c (.clo sPlain [])) [(.t 7)]),
    .pick 9 (.t 6) (.t 8) (.c (.d (.b false))),
    .kill [3, 4, 5, 6, 7, 8],
    .mv 10 (.t 9),
    .gd 10 true (some 11) (.mv 11 (.t 0)),
    .gd 10 true (some 12) (.call 12 true [] (.c (.clo sTrim [])) [(.t 11)]),
    .gd 10 true (some 13) (.mv 13 (.t 0)),
    .gd 10 true (some 14) (.bin 14 .eql .num (.t 12) (.t 13)),
    .kill [0, 9, 11, 12, 13],
    .pick 15 (.t 10) (.t 14) (.c (.d (.b false))),
    .mv 2 (.t 15),
    .keep [2]])
  (.ret))⟩
/-- live: [0, 1, 5]; objects: [] -/
def ilineOk_l0 : C :=
  .seq (.seq (.r [.mv 6 (.t 5),
      .mv 7 (.t 0),
      .lns 8 (.t 7),
      .bin 9 .lss .num (.t 6) (.t 8),
      .kill [6, 7, 8]])
    (.cond (.t 9)
      (.pre [.kill [9]] (.skip))
      (.pre [.kill [5, 9]] (.ex 0))))
    (.seq (.blk 1 (.seq (.r [.mv 12 (.t 0),
      .mv 13 (.t 5),
      .ix 14 (.t 12) (.t 13),
      .call 15 true [] (.c (.clo iisLarge [])) [(.t 14)],
      .not 16 (.t 15),
      .kill [12, 13, 14, 15]])
    (.cond (.t 16)
      (.pre [.keep []] (.seq (.r [.mv 4 (.c (.d (.b false)))])
      (.ret)))
      (.pre [.kill [16]] (.skip)))))
    (.r [.mv 10 (.t 5),
      .bin 11 .add .num (.t 10) (.c (.d (.i .i64 1))),
      .mv 5 (.t 11),
      .kill [10, 11]]))
def ilineOk_m : Fn := ⟨2, [.t 4], false,
  .seq (.r [.mv 4 (.c (.d (.b false))),
    .kill [4]])
  (.seq (.seq (.r [.mv 5 (.c (.d (.i .i64 0)))])
  (.blk 0 (.pre [.keep [5, 1, 0]] (.loop ilineOk_l0))))
  (.seq (.r [.mv 17 (.t 0),
    .lns 18 (.t 17),
    .call 19 true [] (.c (.clo iin [])) [(.t 18), (.c (.d (.i .i64 1))), (.c (.d (.i .i64 9)))],
    .mv 20 (.t 19),
    .gd 20 true (some 21) (.mv 21 (.t 1)),
    .gd 20 true (some 22) (.lns 22 (.t 21)),
    .kill [0, 17, 18, 19, 21],
    .gd 20 true (some 23) (.call 23 true [] (.c (.clo iin [])) [(.t 22), (.c (.d (.i .i64 1))), (.c (.d (.i .i64 80)))]),
    .pick 24 (.t 20) (.t 23) (.c (.d (.b false))),
    .mv 25 (.t 24),
    .gd 25 true (some 26) (.mv 26 (.t 1)),
    .gd 25 true (some 27) (.call 27 true [] (.c (.clo iPlain [])) [(.t 26)]),
    .kill [20, 22, 23, 24, 26],
    .pick 28 (.t 25) (.t 27) (.c (.d (.b false))),
    .mv 29 (.t 28),
    .gd 29 true (some 30) (.mv 30 (.t 1)),
    .gd 29 true (some 31) (.call 31 true [] (.c (.clo x_strings_Contains [])) [(.t 30), (.c (.d (.s [32])))]),
    .kill [1, 25, 27, 28, 30],
    .gd 29 true (some 32) (.not 32 (.t 31)),
    .pick 33 (.t 29) (.t 32) (.c (.d (.b false))),
    .mv 4 (.t 33),
    .keep [4]])
  (.ret)))⟩
/-- live: [0, 5, 6, 7]; objects: [] -/
def iheadsOk_l0 : C :=
  .seq (.r [.bin 8 .lss .num (.t 7) (.t 6)])
    (.seq (.cond (.t 8)
      (.pre [.kill [8]] (.skip))
      (.pre [.keep [0]] (.ex 0)))
    (.seq (.blk 1 (.seq (.r [.ia 9 2 (.t 5) (.t 7),
      .ld 10 2 true (.t 9),
      .al 4 THead false,
      .st 2 (.t 4) (.t 10),
      .kill [9, 10]])
    (.seq (.r [.fa 11 (.t 4) 0,
      .ld 12 1 false (.t 11),
      .call 13 true [] (.c (.clo iSmallName [])) [(.t 12)],
      .not 14 (.t 13),
      .mv 15 (.t 14),
      .gd 15 false (some 16) (.fa 16 (.t 4) 1),
      .gd 15 false (some 17) (.ld 17 1 false (.t 16)),
      .kill [11, 12, 13, 14, 16],
      .gd 15 false (some 18) (.call 18 true [] (.c (.clo ivalOk [])) [(.t 17)]),
      .gd 15 false (some 19) (.not 19 (.t 18)),
      .pick 20 (.t 15) (.c (.d (.b true))) (.t 19),
      .mv 21 (.t 20),
      .kill [15, 17, 18, 19, 20],
      .gd 21 false (some 22) (.fa 22 (.t 4) 0),
      .gd 21 false (some 23) (.ld 23 1 false (.t 22)),
      .gd 21 false (some 24) (.bin 24 .eql .num (.t 23) (.c (.d (.s [99, 111, 110, 116, 101, 110, 116, 45, 108, 101, 110, 103, 116, 104])))),
      .pick 25 (.t 21) (.c (.d (.b true))) (.t 24),
      .mv 26 (.t 25),
      .kill [21, 22, 23, 24, 25],
      .gd 26 false (some 27) (.fa 27 (.t 4) 0),
      .gd 26 false (some 28) (.ld 28 1 false (.t 27)),
      .gd 26 false (some 29) (.bin 29 .eql .num (.t 28) (.c (.d (.s [116, 114, 97, 110, 115, 102, 101, 114, 45, 101, 110, 99, 111, 100, 105, 110, 103])))),
      .pick 30 (.t 26) (.c (.d (.b true))) (.t 29),
      .keep [30, 7, 6, 5, 0],
      .drop [68]])
    (.cond (.t 30)
      (.pre [.keep []] (.seq (.r [.mv 2 (.c (.d (.b false)))])
      (.ret)))
      (.pre [.kill [30]] (.skip))))))
    (.r [.bin 31 .add .num (.t 7) (.c (.d (.i .i64 1))),
      .mv 7 (.t 31),
      .kill [31]])))
def iheadsOk_m : Fn := ⟨1, [.t 2], false,
  .seq (.r [.mv 2 (.c (.d (.b false))),
    .kill [2]])
  (.seq (.seq (.r [.mv 5 (.t 0),
    .len 6 (.t 5),
    .mv 7 (.c (.d (.i .i64 0)))])
  (.blk 0 (.pre [.keep [7, 6, 5, 0]] (.loop iheadsOk_l0))))
  (.seq (.r [.mv 32 (.t 0),
    .len 33 (.t 32),
    .bin 34 .leq .num (.t 33) (.c (.d (.i .i64 8))),
    .mv 2 (.t 34),
    .keep [2]])
  (.ret)))⟩
def sl1Small_m : Fn := ⟨1, [.t 2], false,
  .seq (.r [.mv 2 (.c (.d (.b false))),
    .kill [2]])
  (.seq (.r [.mv 3 (.t 0),
    .cvi 4 .i64 (.t 3),
    .call 5 true [] (.c (.clo sl1In [])) [(.t 4), (.c (.d (.i .i64 97))), (.c (.d (.i .i64 122)))],
    .mv 2 (.t 5),
    .keep [2]])
  (.ret))⟩
def sl1Digit_m : Fn := ⟨1, [.t 2], false,
  .seq (.r [.mv 2 (.c (.d (.b false))),
    .kill [2]])
  (.seq (.r [.mv 3 (.t 0),
    .cvi 4 .i64 (.t 3),
    .call 5 true [] (.c (.clo sl1In [])) [(.t 4), (.c (.d (.i .i64 48))), (.c (.d (.i .i64 57)))],
    .mv 2 (.t 5),
    .keep [2]])
  (.ret))⟩
/-- live: [0, 3]; objects: [] -/
def sPlain_l0 : C :=
  .seq (.seq (.r [.mv 4 (.t 3),
      .mv 5 (.t 0),
      .lns 6 (.t 5),
      .bin 7 .lss .num (.t 4) (.t 6),
      .kill [4, 5, 6]])
    (.cond (.t 7)
      (.pre [.kill [7]] (.skip))
      (.pre [.keep []] (.ex 0))))
    (.seq (.blk 1 (.seq (.r [.mv 10 (.t 0),
      .mv 11 (.t 3),
      .ix 12 (.t 10) (.t 11),
      .cvi 13 .i64 (.t 12),
      .call 14 true [] (.c (.clo sl1In [])) [(.t 13), (.c (.d (.i .i64 32))), (.c (.d (.i .i64 126)))],
      .not 15 (.t 14),
      .keep [15, 3, 0]])
    (.cond (.t 15)
      (.pre [.keep []] (.seq (.r [.mv 2 (.c (.d (.b false)))])
      (.ret)))
      (.pre [.kill [15]] (.skip)))))
    (.r [.mv 8 (.t 3),
      .bin 9 .add .num (.t 8) (.c (.d (.i .i64 1))),
      .mv 3 (.t 9),
      .kill [8, 9]]))
def sPlain_m : Fn := ⟨1, [.t 2], false,
  .seq (.r [.mv 2 (.c (.d (.b false))),
    .kill [2]])
  (.seq (.seq (.r [.mv 3 (.c (.d (.i .i64 0)))])
  (.blk 0 (.pre [.keep [3, 0]] (.loop sPlain_l0))))
  (.seq (.r [.mv 2 (.c (.d (.b true)))])
  (.ret)))⟩
/-- live: [0]; objects: [] -/
def sTrim_l0 : C :=
  .seq (.seq (.r [.mv 3 (.t 0),
      .lns 4 (.t 3),
      .bin 5 .gtr .num (.t 4) (.c (.d (.i .i64 0))),
      .mv 6 (.t 5),
      .gd 6 true (some 7) (.mv 7 (.t 0)),
      .gd 6 true (some 8) (.ix 8 (.t 7) (.c (.d (.i .i64 0)))),
      .gd 6 true (some 9) (.call 9 true [] (.c (.clo sl1Blank [])) [(.t 8)]),
      .kill [3, 4, 5, 7, 8],
      .pick 10 (.t 6) (.t 9) (.c (.d (.b false))),
      .keep [10, 0]])
    (.cond (.t 10)
      (.pre [.kill [10]] (.skip))
      (.pre [.kill [10]] (.ex 0))))
    (.blk 1 (.r [.mv 11 (.t 0),
      .slc 12 0 (.t 11) (some (.c (.d (.i .i64 1)))) none,
      .mv 0 (.t 12),
      .keep [0]]))
/-- live: [0]; objects: [] -/
def sTrim_l1 : C :=
  .seq (.seq (.r [.mv 13 (.t 0),
      .lns 14 (.t 13),
      .bin 15 .gtr .num (.t 14) (.c (.d (.i .i64 0))),
      .mv 16 (.t 15),
      .gd 16 true (some 17) (.mv 17 (.t 0)),
      .gd 16 true (some 18) (.mv 18 (.t 0)),
      .gd 16 true (some 19) (.lns 19 (.t 18)),
      .gd 16 true (some 20) (.bin 20 .sub .num (.t 19) (.c (.d (.i .i64 1)))),
      .kill [13, 14, 15, 18, 19],
      .gd 16 true (some 21) (.ix 21 (.t 17) (.t 20)),
      .gd 16 true (some 22) (.call 22 true [] (.c (.clo sl1Blank [])) [(.t 21)]),
      .pick 23 (.t 16) (.t 22) (.c (.d (.b false))),
      .keep [23, 0]])
    (.cond (.t 23)
      (.pre [.kill [23]] (.skip))
      (.pre [.kill [23]] (.ex 2))))
    (.blk 3 (.r [.mv 24 (.t 0),
      .mv 25 (.t 0),
      .lns 26 (.t 25),
      .bin 27 .sub .num (.t 26) (.c (.d (.i .i64 1))),
      .slc 28 0 (.t 24) none (some (.t 27)),
      .kill [0, 24, 25, 26, 27],
      .mv 0 (.t 28),
      .keep [0]]))
def sTrim_m : Fn := ⟨1, [.t 2], false,
  .seq (.r [.mv 2 (.c (.d (.s []))),
    .kill [2]])
  (.seq (.blk 0 (.pre [.keep [0]] (.loop sTrim_l0)))
  (.seq (.blk 2 (.pre [.keep [0]] (.loop sTrim_l1)))
  (.seq (.r [.mv 29 (.t 0),
    .mv 2 (.t 29),
    .keep [2]])
  (.ret))))⟩
def iisLarge_m : Fn := ⟨1, [.t 2], false,
  .seq (.r [.mv 2 (.c (.d (.b false))),
    .kill [2]])
  (.seq (.r [.mv 3 (.t 0),
    .bin 4 .geq .num (.t 3) (.c (.d (.u 65))),
    .mv 5 (.t 4),
    .gd 5 true (some 6) (.mv 6 (.t 0)),
    .gd 5 true (some 7) (.bin 7 .leq .num (.t 6) (.c (.d (.u 90)))),
    .pick 8 (.t 5) (.t 7) (.c (.d (.b false))),
    .kill [0, 3, 4, 5, 6, 7],
    .mv 2 (.t 8),
    .keep [2]])
  (.ret))⟩
/-- live: [0, 3]; objects: [] -/
def iPlain_l0 : C :=
  .seq (.seq (.r [.mv 4 (.t 3),
      .mv 5 (.t 0),
      .lns 6 (.t 5),
      .bin 7 .lss .num (.t 4) (.t 6),
      .kill [4, 5, 6]])
    (.cond (.t 7)
      (.pre [.kill [7]] (.skip))
      (.pre [.keep []] (.ex 0))))
    (.seq (.blk 1 (.seq (.r [.mv 10 (.t 0),
      .mv 11 (.t 3),
      .ix 12 (.t 10) (.t 11),
      .call 13 true [] (.c (.clo iisPlain [])) [(.t 12)],
      .not 14 (.t 13),
      .keep [14, 3, 0]])
    (.cond (.t 14)
      (.pre [.keep []] (.seq (.r [.mv 2 (.c (.d (.b false)))])
      (.ret)))
      (.pre [.kill [14]] (.skip)))))
    (.r [.mv 8 (.t 3),
      .bin 9 .add .num (.t 8) (.c (.d (.i .i64 1))),
      .mv 3 (.t 9),
      .kill [8, 9]]))
def iPlain_m : Fn := ⟨1, [.t 2], false,
  .seq (.r [.mv 2 (.c (.d (.b false))),
    .kill [2]])
  (.seq (.seq (.r [.mv 3 (.c (.d (.i .i64 0)))])
  (.blk 0 (.pre [.keep [3, 0]] (.loop iPlain_l0))))
  (.seq (.r [.mv 2 (.c (.d (.b true)))])
  (.ret)))⟩
/-- live: [0, 3]; objects: [] -/
def iSmallName_l0 : C :=
  .seq (.seq (.r [.mv 4 (.t 3),
      .mv 5 (.t 0),
      .lns 6 (.t 5),
      .bin 7 .lss .num (.t 4) (.t 6),
      .kill [4, 5, 6]])
    (.cond (.t 7)
      (.pre [.kill [7]] (.skip))
      (.pre [.keep [0]] (.ex 0))))
    (.seq (.blk 1 (.seq (.r [.mv 10 (.t 0),
      .mv 11 (.t 3),
      .ix 12 (.t 10) (.t 11),
      .call 13 true [] (.c (.clo iisSmall [])) [(.t 12)],
      .not 14 (.t 13),
      .mv 15 (.t 14),
      .kill [10, 11, 12, 13, 14],
      .gd 15 true (some 16) (.mv 16 (.t 3)),
      .gd 15 true (some 17) (.bin 17 .eql .num (.t 16) (.c (.d (.i .i64 0)))),
      .gd 15 true (some 18) (.mv 18 (.t 17)),
      .gd 18 false (some 19) (.mv 19 (.t 0)),
      .gd 18 false (some 20) (.mv 20 (.t 3)),
      .gd 18 false (some 21) (.ix 21 (.t 19) (.t 20)),
      .gd 18 false (some 22) (.call 22 true [] (.c (.clo iisDigit [])) [(.t 21)]),
      .kill [16, 17, 19, 20, 21],
      .gd 18 false (some 23) (.not 23 (.t 22)),
      .gd 18 false (some 24) (.mv 24 (.t 23)),
      .gd 24 true (some 25) (.mv 25 (.t 0)),
      .gd 24 true (some 26) (.mv 26 (.t 3)),
      .gd 24 true (some 27) (.ix 27 (.t 25) (.t 26)),
      .gd 24 true (some 28) (.bin 28 .neq .num (.t 27) (.c (.d (.u 45)))),
      .kill [22, 23, 25, 26, 27],
      .gd 18 false (some 29) (.pick 29 (.t 24) (.t 28) (.c (.d (.b false)))),
      .gd 15 true (some 30) (.pick 30 (.t 18) (.c (.d (.b true))) (.t 29)),
      .pick 31 (.t 15) (.t 30) (.c (.d (.b false))),
      .keep [31, 3, 0]])
    (.cond (.t 31)
      (.pre [.keep []] (.seq (.r [.mv 2 (.c (.d (.b false)))])
      (.ret)))
      (.pre [.kill [31]] (.skip)))))
    (.r [.mv 8 (.t 3),
      .bin 9 .add .num (.t 8) (.c (.d (.i .i64 1))),
      .mv 3 (.t 9),
      .kill [8, 9]]))
def iSmallName_m : Fn := ⟨1, [.t 2], false,
  .seq (.r [.mv 2 (.c (.d (.b false))),
    .kill [2]])
  (.seq (.seq (.r [.mv 3 (.c (.d (.i .i64 0)))])
  (.blk 0 (.pre [.keep [3, 0]] (.loop iSmallName_l0))))
  (.seq (.r [.mv 32 (.t 0),
    .lns 33 (.t 32),
    .call 34 true [] (.c (.clo iin [])) [(.t 33), (.c (.d (.i .i64 1))), (.c (.d (.i .i64 20)))],
    .mv 2 (.t 34),
    .keep [2]])
  (.ret)))⟩
def ivalOk_m : Fn := ⟨1, [.t 2], false,
  .seq (.r [.mv 2 (.c (.d (.b false))),
    .kill [2]])
  (.seq (.r [.mv 3 (.t 0),
    .lns 4 (.t 3),
    .bin 5 .leq .num (.t 4) (.c (.d (.i .i64 60))),
    .mv 6 (.t 5),
    .gd 6 true (some 7) (.mv 7 (.t 0)),
    .gd 6 true (some 8) (.call 8 true [] (.c (.clo iPlain [])) [(.t 7)]),
    .pick 9 (.t 6) (.t 8) (.c (.d (.b false))),
    .kill [3, 4, 5, 6, 7, 8],
    .mv 10 (.t 9),
    .gd 10 true (some 11) (.mv 11 (.t 0)),
    .gd 10 true (some 12) (.call 12 true [] (.c (.clo iTrim [])) [(.t 11)]),
    .gd 10 true (some 13) (.mv 13 (.t 0)),
    .gd 10 true (some 14) (.bin 14 .eql .num (.t 12) (.t 13)),
    .kill [0, 9, 11, 12, 13],
    .pick 15 (.t 10) (.t 14) (.c (.d (.b false))),
    .mv 2 (.t 15),
    .keep [2]])
  (.ret))⟩
def sl1Blank_m : Fn := ⟨1, [.t 2], false,
  .seq (.r [.mv 2 (.c (.d (.b false))),
    .kill [2]])
  (.seq (.r [.mv 3 (.t 0),
    .bin 4 .eql .num (.t 3) (.c (.d (.u 32))),
    .mv 5 (.t 4),
    .gd 5 false (some 6) (.mv 6 (.t 0)),
    .gd 5 false (some 7) (.bin 7 .eql .num (.t 6) (.c (.d (.u 9)))),
    .pick 8 (.t 5) (.c (.d (.b true))) (.t 7),
    .kill [0, 3, 4, 5, 6, 7],
    .mv 2 (.t 8),
    .keep [2]])
  (.ret))⟩
def iisPlain_m : Fn := ⟨1, [.t 2], false,
  .seq (.r [.mv 2 (.c (.d (.b false))),
    .kill [2]])
  (.seq (.r [.mv 3 (.t 0),
    .bin 4 .geq .num (.t 3) (.c (.d (.u 32))),
    .mv 5 (.t 4),
    .gd 5 true (some 6) (.mv 6 (.t 0)),
    .gd 5 true (some 7) (.bin 7 .leq .num (.t 6) (.c (.d (.u 126)))),
    .pick 8 (.t 5) (.t 7) (.c (.d (.b false))),
    .kill [0, 3, 4, 5, 6, 7],
    .mv 2 (.t 8),
    .keep [2]])
  (.ret))⟩
def iisSmall_m : Fn := ⟨1, [.t 2], false,
  .seq (.r [.mv 2 (.c (.d (.b false))),
    .kill [2]])
  (.seq (.r [.mv 3 (.t 0),
    .bin 4 .geq .num (.t 3) (.c (.d (.u 97))),
    .mv 5 (.t 4),
    .gd 5 true (some 6) (.mv 6 (.t 0)),
    .gd 5 true (some 7) (.bin 7 .leq .num (.t 6) (.c (.d (.u 122)))),
    .pick 8 (.t 5) (.t 7) (.c (.d (.b false))),
    .kill [0, 3, 4, 5, 6, 7],
    .mv 2 (.t 8),
    .keep [2]])
  (.ret))⟩
def iisDigit_m : Fn := ⟨1, [.t 2], false,
  .seq (.r [.mv 2 (.c (.d (.b false))),
    .kill [2]])
  (.seq (.r [.mv 3 (.t 0),
    .bin 4 .geq .num (.t 3) (.c (.d (.u 48))),
    .mv 5 (.t 4),
    .gd 5 true (some 6) (.mv 6 (.t 0)),
    .gd 5 true (some 7) (.bin 7 .leq .num (.t 6) (.c (.d (.u 57)))),
    .pick 8 (.t 5) (.t 7) (.c (.d (.b false))),
    .kill [0, 3, 4, 5, 6, 7],
    .mv 2 (.t 8),
    .keep [2]])
  (.ret))⟩
def iTrim_m : Fn := ⟨1, [.t 2], false,
  .seq (.r [.mv 2 (.c (.d (.s []))),
    .kill [2]])
  (.seq (.r [.mv 3 (.t 0),
    .call 4 true [] (.c (.clo x_strings_Trim [])) [(.t 3), (.c (.d (.s [32, 9])))],
    .mv 2 (.t 4),
    .keep [2]])
  (.ret))⟩
def tabL : List (Nat × Fn) := [(wFnExactPutRec, wFnExactPutRec_m), (wszRec, wszRec_m), (sPutRec, sPutRec_m), (wtoByteS, wtoByteS_m), (wtoRec, wtoRec_m), (iPutRec, iPutRec_m), (weqByteS, weqByteS_m), (weqRec, weqRec_m), (wmarkByteS, wmarkByteS_m), (wmarkRec, wmarkRec_m), (wheldByteS, wheldByteS_m), (wszReq, wszReq_m), (sPutReq, sPutReq_m), (sl1In, sl1In_m), (wtoReq, wtoReq_m), (icopyBytes, icopyBytes_m), (iputRec, iputRec_m), (weqReq, weqReq_m), (wmarkReq, wmarkReq_m), (wszHeadS, wszHeadS_m), (sl3Put, sl3Put_m), (sNumText, sNumText_m), (wtoHeadS, wtoHeadS_m), (iPutReq, iPutReq_m), (iin, iin_m), (weqHeadS, weqHeadS_m), (wmarkHeadS, wmarkHeadS_m), (wszHead, wszHead_m), (sl3HeadsText, sl3HeadsText_m), (sReqOk, sReqOk_m), (wtoHead, wtoHead_m), (ilengthText, ilengthText_m), (iputReq, iputReq_m), (weqHead, weqHead_m), (wmarkText, wmarkText_m), (sl3Method, sl3Method_m), (sl3Target, sl3Target_m), (sl3Heads, sl3Heads_m), (iNumText, iNumText_m), (iheadText, iheadText_m), (iReqOk, iReqOk_m), (sl1Large, sl1Large_m), (sSmallName, sSmallName_m), (sl3Val, sl3Val_m), (ilineOk, ilineOk_m), (iheadsOk, iheadsOk_m), (sl1Small, sl1Small_m), (sl1Digit, sl1Digit_m), (sPlain, sPlain_m), (sTrim, sTrim_m), (iisLarge, iisLarge_m), (iPlain, iPlain_m), (iSmallName, iSmallName_m), (ivalOk, ivalOk_m), (sl1Blank, sl1Blank_m), (iisPlain, iisPlain_m), (iisSmall, iisSmall_m), (iisDigit, iisDigit_m), (iTrim, iTrim_m)]
end Go.Proofs.YtfklggpopffkjaaDoorK
