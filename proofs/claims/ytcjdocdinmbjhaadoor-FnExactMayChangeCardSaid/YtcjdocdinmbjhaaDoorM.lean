import Derived.Test.YtcjdocdinmbjhaaDoorJ24
import Derived.Test.YtcjdocdinmbjhaaDoorProg
import Derived.KernelRfl
set_option linter.unusedVariables false
set_option linter.unusedSimpArgs false
namespace Go.Proofs.YtcjdocdinmbjhaaDoorK
open Go.RowKit
def wFnExactMayChange : Nat := 4
def wszSrv : Nat := 7
def wtoSrv : Nat := 9
def weqSrv : Nat := 11
def wszAsk : Nat := 12
def sMayChange : Nat := 13
def wtoAsk : Nat := 14
def iMayChange : Nat := 15
def weqAsk : Nat := 16
def wszResS : Nat := 37
def wszLockS : Nat := 38
def wszIntS : Nat := 39
def wtoResS : Nat := 41
def wtoLockS : Nat := 42
def wtoIntS : Nat := 43
def weqResS : Nat := 45
def weqLockS : Nat := 46
def weqIntS : Nat := 47
def wszStringS : Nat := 17
def sTagAt : Nat := 40
def sMayTurn : Nat := 48
def sl16Both : Nat := 49
def wtoStringS : Nat := 19
def iTagAt : Nat := 44
def iMayChange_1 : Nat := 50
def iMayChange_2 : Nat := 52
def iAbove : Nat := 53
def iMayChange_3 : Nat := 54
def weqStringS : Nat := 22
def wszRes : Nat := 75
def wszLock : Nat := 76
def wtoRes : Nat := 78
def wtoLock : Nat := 79
def weqRes : Nat := 82
def weqLock : Nat := 83
def sTagText : Nat := 57
def sFindRes : Nat := 77
def sUnder : Nat := 56
def sCovers : Nat := 84
def sl13Has : Nat := 85
def sAbove : Nat := 86
def iTagText : Nat := 80
def iFindRes : Nat := 81
def iMayTurn : Nat := 51
def icopyPath : Nat := 89
def wszPropS : Nat := 100
def wtoPropS : Nat := 101
def weqPropS : Nat := 103
def sNumText : Nat := 91
def sSamePath : Nat := 90
def iNumText : Nat := 102
def iSamePath : Nat := 92
def iUnder : Nat := 61
def iCovers : Nat := 87
def ihasInt : Nat := 88
def wszProp : Nat := 111
def wtoProp : Nat := 112
def weqProp : Nat := 114
def x_strconv_Itoa : Nat := 113
abbrev TProp : T := .pr .str (.pr .str .str)
abbrev TRes : T := .pr (.sl .str) (.pr .bool (.pr .str (.pr (.int .i64) (.sl TProp))))
abbrev TLock : T := .pr (.int .i64) (.pr (.sl .str) (.pr .bool (.pr .bool (.int .i64))))
abbrev TSrv : T := .pr (.sl TRes) (.pr (.sl TLock) (.pr (.int .i64) (.pr (.int .i64) (.pr (.sl (.int .i64)) (.sl (.int .i64))))))
abbrev TAsk : T := .pr (.sl .str) (.pr (.sl .str) (.pr .bool (.pr .bool (.pr (.sl (.int .i64)) (.int .i64)))))
def wFnExactMayChange_m : Fn := ⟨3, [.t 6], false,
  .seq (.r [.bx 3 TSrv true (.t 0),
    .bx 5 TAsk true (.t 2),
    .mv 6 (.c (.d (.b false))),
    .kill [0, 2, 6]])
  (.seq (.seq (.r [.mv 12 (.t 1),
    .lns 13 (.t 12),
    .bin 14 .gtr .num (.t 13) (.c (.d (.i .i64 1048576))),
    .kill [12, 13]])
  (.cond (.t 14)
    (.pre [.keep [], .drop [67, 69]] (.seq (.r [.mv 6 (.c (.d (.b true)))])
    (.ret)))
    (.pre [.kill [14]] (.skip))))
  (.seq (.r [.mv 7 (.c (.d (.i .i64 1048576)))])
  (.seq (.r [.ld 15 6 true (.t 3),
    .mv 16 (.t 7),
    .call 17 true [] (.c (.clo wszSrv [])) [(.t 15), (.t 16)],
    .mv 7 (.t 17),
    .kill [15, 16, 17]])
  (.seq (.seq (.r [.mv 18 (.t 7),
    .bin 19 .lss .num (.t 18) (.c (.d (.i .i64 0))),
    .kill [18]])
  (.cond (.t 19)
    (.pre [.keep [], .drop [67, 69]] (.seq (.r [.mv 6 (.c (.d (.b true)))])
    (.ret)))
    (.pre [.kill [19]] (.skip))))
  (.seq (.r [.ld 20 6 true (.t 5),
    .mv 21 (.t 7),
    .call 22 true [] (.c (.clo wszAsk [])) [(.t 20), (.t 21)],
    .mv 7 (.t 22),
    .kill [20, 21, 22]])
  (.seq (.seq (.r [.mv 23 (.t 7),
    .bin 24 .lss .num (.t 23) (.c (.d (.i .i64 0))),
    .kill [7, 23]])
  (.cond (.t 24)
    (.pre [.keep [], .drop [67, 69]] (.seq (.r [.mv 6 (.c (.d (.b true)))])
    (.ret)))
    (.pre [.kill [24]] (.skip))))
  (.seq (.post (.r [.ld 25 6 true (.t 3),
    .call 26 true [] (.c (.clo wtoSrv [])) [(.t 25)],
    .mv 27 (.t 1),
    .ld 28 6 true (.t 5),
    .call 29 true [] (.c (.clo wtoAsk [])) [(.t 28)],
    .call 30 true [] (.c (.clo sMayChange [])) [(.t 26), (.t 27), (.t 29)],
    .mv 8 (.t 30)]) [.keep [8, 5, 3, 1]])
  (.seq (.r [.ld 31 6 true (.t 3),
    .call 32 false [] (.c (.clo wtoSrv [])) [(.t 31)],
    .al 9 TSrv false,
    .st 6 (.t 9) (.t 32),
    .kill [31, 32],
    .drop [33064, 33065, 33068, 33069]])
  (.seq (.r [.ld 33 6 true (.t 5),
    .call 34 false [] (.c (.clo wtoAsk [])) [(.t 33)],
    .al 10 TAsk false,
    .st 6 (.t 10) (.t 34),
    .kill [33, 34],
    .drop [35064, 35065, 35068]])
  (.seq (.r [.ld 35 6 true (.t 9),
    .mv 36 (.t 1),
    .ld 37 6 true (.t 10),
    .call 38 true [] (.c (.clo iMayChange [])) [(.t 35), (.t 36), (.t 37)],
    .mv 11 (.t 38),
    .kill [1, 35, 36, 37, 38]])
  (.seq (.seq (.r [.mv 39 (.t 11),
    .mv 40 (.t 8),
    .bin 41 .neq .flag (.t 39) (.t 40),
    .kill [8, 11, 39, 40]])
  (.cond (.t 41)
    (.pre [.keep [], .drop [67, 69, 73, 74]] (.seq (.r [.mv 6 (.c (.d (.b false)))])
    (.ret)))
    (.pre [.kill [41]] (.skip))))
  (.seq (.seq (.post (.r [.ld 42 6 true (.t 9),
    .ld 43 6 true (.t 3),
    .call 44 true [] (.c (.clo wtoSrv [])) [(.t 43)],
    .call 45 true [] (.c (.clo weqSrv [])) [(.t 42), (.t 44)],
    .not 46 (.t 45)]) [.keep [46, 10, 5], .drop [67, 73]])
  (.cond (.t 46)
    (.pre [.keep [], .drop [69, 74]] (.seq (.r [.mv 6 (.c (.d (.b false)))])
    (.ret)))
    (.pre [.kill [46]] (.skip))))
  (.seq (.seq (.post (.r [.ld 47 6 true (.t 10),
    .ld 48 6 true (.t 5),
    .call 49 true [] (.c (.clo wtoAsk [])) [(.t 48)],
    .call 50 true [] (.c (.clo weqAsk [])) [(.t 47), (.t 49)],
    .not 51 (.t 50)]) [.keep [51], .drop [69, 74]])
  (.cond (.t 51)
    (.pre [.keep []] (.seq (.r [.mv 6 (.c (.d (.b false)))])
    (.ret)))
    (.pre [.keep []] (.skip))))
  (.seq (.r [.mv 6 (.c (.d (.b true)))])
  (.ret)))))))))))))))⟩
def wszSrv_m : Fn := ⟨2, [.t 4], false,
  .seq (.r [.bx 2 TSrv true (.t 0),
    .mv 4 (.c (.d (.i .i64 0))),
    .kill [0, 4]])
  (.seq (.r [.fa 5 (.t 2) 0,
    .ld 6 1 false (.t 5),
    .mv 7 (.t 1),
    .call 8 true [] (.c (.clo wszResS [])) [(.t 6), (.t 7)],
    .mv 1 (.t 8),
    .keep [2, 1]])
  (.seq (.seq (.r [.mv 9 (.t 1),
    .bin 10 .lss .num (.t 9) (.c (.d (.i .i64 0))),
    .kill [9]])
  (.cond (.t 10)
    (.pre [.keep [], .drop [66]] (.seq (.r [.mv 4 (.c (.d (.i .i64 (-1))))])
    (.ret)))
    (.pre [.kill [10]] (.skip))))
  (.seq (.r [.fa 11 (.t 2) 1,
    .ld 12 1 false (.t 11),
    .mv 13 (.t 1),
    .call 14 true [] (.c (.clo wszLockS [])) [(.t 12), (.t 13)],
    .mv 1 (.t 14),
    .keep [2, 1]])
  (.seq (.seq (.r [.mv 15 (.t 1),
    .bin 16 .lss .num (.t 15) (.c (.d (.i .i64 0))),
    .kill [15]])
  (.cond (.t 16)
    (.pre [.keep [], .drop [66]] (.seq (.r [.mv 4 (.c (.d (.i .i64 (-1))))])
    (.ret)))
    (.pre [.kill [16]] (.skip))))
  (.seq (.r [.fa 17 (.t 2) 4,
    .ld 18 1 false (.t 17),
    .mv 19 (.t 1),
    .call 20 true [] (.c (.clo wszIntS [])) [(.t 18), (.t 19)],
    .mv 1 (.t 20),
    .keep [2, 1]])
  (.seq (.seq (.r [.mv 21 (.t 1),
    .bin 22 .lss .num (.t 21) (.c (.d (.i .i64 0))),
    .kill [21]])
  (.cond (.t 22)
    (.pre [.keep [], .drop [66]] (.seq (.r [.mv 4 (.c (.d (.i .i64 (-1))))])
    (.ret)))
    (.pre [.kill [22]] (.skip))))
  (.seq (.r [.fa 23 (.t 2) 5,
    .ld 24 1 false (.t 23),
    .mv 25 (.t 1),
    .call 26 true [] (.c (.clo wszIntS [])) [(.t 24), (.t 25)],
    .kill [1, 2, 23, 24, 25],
    .mv 1 (.t 26),
    .keep [1],
    .drop [66]])
  (.seq (.seq (.r [.mv 27 (.t 1),
    .bin 28 .lss .num (.t 27) (.c (.d (.i .i64 0))),
    .kill [27]])
  (.cond (.t 28)
    (.pre [.keep []] (.seq (.r [.mv 4 (.c (.d (.i .i64 (-1))))])
    (.ret)))
    (.pre [.kill [28]] (.skip))))
  (.seq (.r [.mv 29 (.t 1),
    .mv 4 (.t 29),
    .keep [4]])
  (.ret))))))))))⟩
def wtoSrv_m : Fn := ⟨1, [.cell 2 6 true], false,
  .seq (.r [.bx 1 TSrv true (.t 0),
    .al 2 TSrv false,
    .kill [0]])
  (.seq (.r [.al 3 TSrv false])
  (.seq (.r [.fa 4 (.t 1) 0,
    .ld 5 1 false (.t 4),
    .call 6 false [] (.c (.clo wtoResS [])) [(.t 5)],
    .fa 7 (.t 3) 0,
    .st 1 (.t 7) (.t 6),
    .keep [3, 2, 1],
    .drop [7064]])
  (.seq (.r [.fa 8 (.t 1) 1,
    .ld 9 1 false (.t 8),
    .call 10 false [] (.c (.clo wtoLockS [])) [(.t 9)],
    .fa 11 (.t 3) 1,
    .st 1 (.t 11) (.t 10),
    .keep [3, 2, 1],
    .drop [11064]])
  (.seq (.r [.fa 12 (.t 1) 2,
    .ld 13 1 false (.t 12),
    .fa 14 (.t 3) 2,
    .st 1 (.t 14) (.t 13),
    .kill [12, 13, 14]])
  (.seq (.r [.fa 15 (.t 1) 3,
    .ld 16 1 false (.t 15),
    .fa 17 (.t 3) 3,
    .st 1 (.t 17) (.t 16),
    .kill [15, 16, 17]])
  (.seq (.r [.fa 18 (.t 1) 4,
    .ld 19 1 false (.t 18),
    .call 20 false [] (.c (.clo wtoIntS [])) [(.t 19)],
    .fa 21 (.t 3) 4,
    .st 1 (.t 21) (.t 20),
    .keep [3, 2, 1],
    .drop [21064]])
  (.seq (.r [.fa 22 (.t 1) 5,
    .ld 23 1 false (.t 22),
    .call 24 false [] (.c (.clo wtoIntS [])) [(.t 23)],
    .fa 25 (.t 3) 5,
    .st 1 (.t 25) (.t 24),
    .keep [3, 2],
    .drop [65, 25064]])
  (.seq (.r [.ldt 26 6 true (.t 3),
    .st 6 (.t 2) (.t 26),
    .keep [2],
    .drop [67, 27064, 27065, 27068, 27069]])
  (.ret)))))))))⟩
def weqSrv_m : Fn := ⟨2, [.t 4], false,
  .seq (.r [.bx 2 TSrv true (.t 0),
    .bx 3 TSrv true (.t 1),
    .mv 4 (.c (.d (.b false))),
    .keep [3, 2]])
  (.seq (.seq (.r [.fa 5 (.t 2) 0,
    .ld 6 1 false (.t 5),
    .fa 7 (.t 3) 0,
    .ld 8 1 false (.t 7),
    .call 9 true [] (.c (.clo weqResS [])) [(.t 6), (.t 8)],
    .not 10 (.t 9),
    .keep [10, 3, 2]])
  (.cond (.t 10)
    (.pre [.keep [], .drop [66, 67]] (.seq (.r [.mv 4 (.c (.d (.b false)))])
    (.ret)))
    (.pre [.kill [10]] (.skip))))
  (.seq (.seq (.r [.fa 11 (.t 2) 1,
    .ld 12 1 false (.t 11),
    .fa 13 (.t 3) 1,
    .ld 14 1 false (.t 13),
    .call 15 true [] (.c (.clo weqLockS [])) [(.t 12), (.t 14)],
    .not 16 (.t 15),
    .keep [16, 3, 2]])
  (.cond (.t 16)
    (.pre [.keep [], .drop [66, 67]] (.seq (.r [.mv 4 (.c (.d (.b false)))])
    (.ret)))
    (.pre [.kill [16]] (.skip))))
  (.seq (.seq (.r [.fa 17 (.t 2) 2,
    .ld 18 1 false (.t 17),
    .fa 19 (.t 3) 2,
    .ld 20 1 false (.t 19),
    .bin 21 .neq .num (.t 18) (.t 20),
    .keep [21, 3, 2]])
  (.cond (.t 21)
    (.pre [.keep [], .drop [66, 67]] (.seq (.r [.mv 4 (.c (.d (.b false)))])
    (.ret)))
    (.pre [.kill [21]] (.skip))))
  (.seq (.seq (.r [.fa 22 (.t 2) 3,
    .ld 23 1 false (.t 22),
    .fa 24 (.t 3) 3,
    .ld 25 1 false (.t 24),
    .bin 26 .neq .num (.t 23) (.t 25),
    .keep [26, 3, 2]])
  (.cond (.t 26)
    (.pre [.keep [], .drop [66, 67]] (.seq (.r [.mv 4 (.c (.d (.b false)))])
    (.ret)))
    (.pre [.kill [26]] (.skip))))
  (.seq (.seq (.r [.fa 27 (.t 2) 4,
    .ld 28 1 false (.t 27),
    .fa 29 (.t 3) 4,
    .ld 30 1 false (.t 29),
    .call 31 true [] (.c (.clo weqIntS [])) [(.t 28), (.t 30)],
    .not 32 (.t 31),
    .keep [32, 3, 2]])
  (.cond (.t 32)
    (.pre [.keep [], .drop [66, 67]] (.seq (.r [.mv 4 (.c (.d (.b false)))])
    (.ret)))
    (.pre [.kill [32]] (.skip))))
  (.seq (.seq (.r [.fa 33 (.t 2) 5,
    .ld 34 1 false (.t 33),
    .fa 35 (.t 3) 5,
    .ld 36 1 false (.t 35),
    .call 37 true [] (.c (.clo weqIntS [])) [(.t 34), (.t 36)],
    .kill [2, 3, 33, 34, 35, 36],
    .not 38 (.t 37),
    .keep [38],
    .drop [66, 67]])
  (.cond (.t 38)
    (.pre [.keep []] (.seq (.r [.mv 4 (.c (.d (.b false)))])
    (.ret)))
    (.pre [.keep []] (.skip))))
  (.seq (.r [.mv 4 (.c (.d (.b true)))])
  (.ret))))))))⟩
def wszAsk_m : Fn := ⟨2, [.t 4], false,
  .seq (.r [.bx 2 TAsk true (.t 0),
    .mv 4 (.c (.d (.i .i64 0))),
    .kill [0, 4]])
  (.seq (.r [.fa 5 (.t 2) 0,
    .ld 6 1 false (.t 5),
    .mv 7 (.t 1),
    .call 8 true [] (.c (.clo wszStringS [])) [(.t 6), (.t 7)],
    .mv 1 (.t 8),
    .keep [2, 1]])
  (.seq (.seq (.r [.mv 9 (.t 1),
    .bin 10 .lss .num (.t 9) (.c (.d (.i .i64 0))),
    .kill [9]])
  (.cond (.t 10)
    (.pre [.keep [], .drop [66]] (.seq (.r [.mv 4 (.c (.d (.i .i64 (-1))))])
    (.ret)))
    (.pre [.kill [10]] (.skip))))
  (.seq (.r [.fa 11 (.t 2) 1,
    .ld 12 1 false (.t 11),
    .mv 13 (.t 1),
    .call 14 true [] (.c (.clo wszStringS [])) [(.t 12), (.t 13)],
    .mv 1 (.t 14),
    .keep [2, 1]])
  (.seq (.seq (.r [.mv 15 (.t 1),
    .bin 16 .lss .num (.t 15) (.c (.d (.i .i64 0))),
    .kill [15]])
  (.cond (.t 16)
    (.pre [.keep [], .drop [66]] (.seq (.r [.mv 4 (.c (.d (.i .i64 (-1))))])
    (.ret)))
    (.pre [.kill [16]] (.skip))))
  (.seq (.r [.fa 17 (.t 2) 4,
    .ld 18 1 false (.t 17),
    .mv 19 (.t 1),
    .call 20 true [] (.c (.clo wszIntS [])) [(.t 18), (.t 19)],
    .kill [1, 2, 17, 18, 19],
    .mv 1 (.t 20),
    .keep [1],
    .drop [66]])
  (.seq (.seq (.r [.mv 21 (.t 1),
    .bin 22 .lss .num (.t 21) (.c (.d (.i .i64 0))),
    .kill [21]])
  (.cond (.t 22)
    (.pre [.keep []] (.seq (.r [.mv 4 (.c (.d (.i .i64 (-1))))])
    (.ret)))
    (.pre [.kill [22]] (.skip))))
  (.seq (.r [.mv 23 (.t 1),
    .mv 4 (.t 23),
    .keep [4]])
  (.ret))))))))⟩
def sMayChange_m : Fn := ⟨3, [.t 6], false,
  .seq (.r [.bx 3 TSrv true (.t 0),
    .bx 5 TAsk true (.t 2),
    .mv 6 (.c (.d (.b false))),
    .kill [0, 2, 6]])
  (.seq (.r [.ld 10 6 true (.t 3),
    .fa 11 (.t 5) 0,
    .ld 12 1 false (.t 11),
    .call 13 true [] (.c (.clo sTagAt [])) [(.t 10), (.t 12)],
    .mv 9 (.t 13),
    .ext 14 (.t 9) 0,
    .ext 15 (.t 9) 1,
    .kill [9, 10, 11, 12, 13],
    .mv 7 (.t 14),
    .mv 8 (.t 15),
    .keep [8, 5, 3, 1]])
  (.seq (.seq (.r [.mv 16 (.t 1),
    .kill [1]])
  (.blk 0 (.seq (.r [.bin 18 .eql .num (.t 16) (.c (.d (.s [80, 85, 84]))),
    .mv 17 (.t 18),
    .kill [18]])
  (.cond (.t 17)
    (.pre [.kill [16, 17]] (.seq (.seq (.r [.mv 19 (.t 8),
      .kill [8]])
    (.cond (.t 19)
      (.pre [.kill [19]] (.seq (.r [.fa 20 (.t 3) 1,
        .ld 21 1 false (.t 20),
        .fa 22 (.t 5) 0,
        .ld 23 1 false (.t 22),
        .fa 24 (.t 5) 4,
        .ld 25 1 false (.t 24),
        .kill [3, 5, 20, 22, 24],
        .call 26 true [] (.c (.clo sMayTurn [])) [(.t 21), (.t 23), (.c (.d (.b false))), (.t 25)],
        .mv 6 (.t 26),
        .keep [6],
        .drop [67, 69]])
      (.ret)))
      (.pre [.kill [19]] (.skip))))
    (.seq (.r [.ld 27 6 true (.t 3),
      .fa 28 (.t 5) 0,
      .ld 29 1 false (.t 28),
      .fa 30 (.t 5) 4,
      .ld 31 1 false (.t 30),
      .call 32 true [] (.c (.clo sl16Both [])) [(.t 27), (.t 29), (.c (.d (.b false))), (.t 31)],
      .kill [3, 5, 27, 28, 29, 30, 31],
      .mv 6 (.t 32),
      .keep [6],
      .drop [67, 69]])
    (.ret))))
    (.pre [.kill [8, 17]] (.seq (.r [.bin 34 .eql .num (.t 16) (.c (.d (.s [77, 75, 67, 79, 76]))),
      .mv 33 (.t 34),
      .kill [34]])
    (.cond (.t 33)
      (.pre [.kill [16, 33]] (.seq (.r [.ld 35 6 true (.t 3),
        .fa 36 (.t 5) 0,
        .ld 37 1 false (.t 36),
        .fa 38 (.t 5) 4,
        .ld 39 1 false (.t 38),
        .call 40 true [] (.c (.clo sl16Both [])) [(.t 35), (.t 37), (.c (.d (.b false))), (.t 39)],
        .kill [3, 5, 35, 36, 37, 38, 39],
        .mv 6 (.t 40),
        .keep [6],
        .drop [67, 69]])
      (.ret)))
      (.pre [.kill [33]] (.seq (.r [.bin 42 .eql .num (.t 16) (.c (.d (.s [80, 82, 79, 80, 80, 65, 84, 67, 72]))),
        .mv 41 (.t 42),
        .kill [42]])
      (.cond (.t 41)
        (.pre [.kill [16, 41]] (.seq (.r [.fa 43 (.t 3) 1,
          .ld 44 1 false (.t 43),
          .fa 45 (.t 5) 0,
          .ld 46 1 false (.t 45),
          .fa 47 (.t 5) 4,
          .ld 48 1 false (.t 47),
          .kill [3, 5, 43, 45, 47],
          .call 49 true [] (.c (.clo sMayTurn [])) [(.t 44), (.t 46), (.c (.d (.b false))), (.t 48)],
          .mv 6 (.t 49),
          .keep [6],
          .drop [67, 69]])
        (.ret)))
        (.pre [.kill [41]] (.seq (.r [.bin 51 .eql .num (.t 16) (.c (.d (.s [68, 69, 76, 69, 84, 69]))),
          .mv 50 (.t 51),
          .kill [51]])
        (.cond (.t 50)
          (.pre [.kill [16, 50]] (.seq (.r [.ld 52 6 true (.t 3),
            .fa 53 (.t 5) 0,
            .ld 54 1 false (.t 53),
            .fa 55 (.t 5) 4,
            .ld 56 1 false (.t 55),
            .call 57 true [] (.c (.clo sl16Both [])) [(.t 52), (.t 54), (.c (.d (.b true))), (.t 56)],
            .kill [3, 5, 52, 53, 54, 55, 56],
            .mv 6 (.t 57),
            .keep [6],
            .drop [67, 69]])
          (.ret)))
          (.pre [.kill [50]] (.seq (.r [.bin 59 .eql .num (.t 16) (.c (.d (.s [77, 79, 86, 69]))),
            .mv 58 (.t 59),
            .kill [59]])
          (.cond (.t 58)
            (.pre [.kill [16, 58]] (.seq (.r [.ld 60 6 true (.t 3),
              .fa 61 (.t 5) 0,
              .ld 62 1 false (.t 61),
              .fa 63 (.t 5) 4,
              .ld 64 1 false (.t 63),
              .call 65 true [] (.c (.clo sl16Both [])) [(.t 60), (.t 62), (.c (.d (.b true))), (.t 64)],
              .kill [60, 61, 62, 63, 64],
              .mv 66 (.t 65),
              .gd 66 true (some 67) (.ld 67 6 true (.t 3)),
              .gd 66 true (some 68) (.fa 68 (.t 5) 1),
              .gd 66 true (some 69) (.ld 69 1 false (.t 68)),
              .gd 66 true (some 70) (.fa 70 (.t 5) 4),
              .gd 66 true (some 71) (.ld 71 1 false (.t 70)),
              .kill [3, 5, 65, 68, 70],
              .gd 66 true (some 72) (.call 72 true [] (.c (.clo sl16Both [])) [(.t 67), (.t 69), (.c (.d (.b true))), (.t 71)]),
              .pick 73 (.t 66) (.t 72) (.c (.d (.b false))),
              .kill [66, 67, 69, 71, 72],
              .mv 6 (.t 73),
              .keep [6],
              .drop [67, 69]])
            (.ret)))
            (.pre [.kill [58]] (.seq (.r [.bin 75 .eql .num (.t 16) (.c (.d (.s [67, 79, 80, 89]))),
              .mv 74 (.t 75),
              .kill [16, 75]])
            (.cond (.t 74)
              (.pre [.kill [74]] (.seq (.r [.ld 76 6 true (.t 3),
                .fa 77 (.t 5) 1,
                .ld 78 1 false (.t 77),
                .fa 79 (.t 5) 4,
                .ld 80 1 false (.t 79),
                .call 81 true [] (.c (.clo sl16Both [])) [(.t 76), (.t 78), (.c (.d (.b true))), (.t 80)],
                .kill [3, 5, 76, 77, 78, 79, 80],
                .mv 6 (.t 81),
                .keep [6],
                .drop [67, 69]])
              (.ret)))
              (.pre [.keep [], .drop [67, 69]] (.skip)))))))))))))))))))))
  (.seq (.r [.mv 6 (.c (.d (.b true)))])
  (.ret))))⟩
def wtoAsk_m : Fn := ⟨1, [.cell 2 6 true], false,
  .seq (.r [.bx 1 TAsk true (.t 0),
    .al 2 TAsk false,
    .kill [0]])
  (.seq (.r [.al 3 TAsk false])
  (.seq (.r [.fa 4 (.t 1) 0,
    .ld 5 1 false (.t 4),
    .call 6 false [] (.c (.clo wtoStringS [])) [(.t 5)],
    .fa 7 (.t 3) 0,
    .st 1 (.t 7) (.t 6),
    .keep [3, 2, 1],
    .drop [7064]])
  (.seq (.r [.fa 8 (.t 1) 1,
    .ld 9 1 false (.t 8),
    .call 10 false [] (.c (.clo wtoStringS [])) [(.t 9)],
    .fa 11 (.t 3) 1,
    .st 1 (.t 11) (.t 10),
    .keep [3, 2, 1],
    .drop [11064]])
  (.seq (.r [.fa 12 (.t 1) 2,
    .ld 13 1 false (.t 12),
    .fa 14 (.t 3) 2,
    .st 1 (.t 14) (.t 13),
    .kill [12, 13, 14]])
  (.seq (.r [.fa 15 (.t 1) 3,
    .ld 16 1 false (.t 15),
    .fa 17 (.t 3) 3,
    .st 1 (.t 17) (.t 16),
    .kill [15, 16, 17]])
  (.seq (.r [.fa 18 (.t 1) 4,
    .ld 19 1 false (.t 18),
    .call 20 false [] (.c (.clo wtoIntS [])) [(.t 19)],
    .fa 21 (.t 3) 4,
    .st 1 (.t 21) (.t 20),
    .keep [3, 2, 1],
    .drop [21064]])
  (.seq (.r [.fa 22 (.t 1) 5,
    .ld 23 1 false (.t 22),
    .fa 24 (.t 3) 5,
    .st 1 (.t 24) (.t 23),
    .keep [3, 2],
    .drop [65]])
  (.seq (.r [.ldt 25 6 true (.t 3),
    .st 6 (.t 2) (.t 25),
    .keep [2],
    .drop [67, 26064, 26065, 26068]])
  (.ret)))))))))⟩
def iMayChange_m : Fn := ⟨3, [.t 6], false,
  .seq (.r [.bx 3 TSrv true (.t 0),
    .bx 5 TAsk true (.t 2),
    .mv 6 (.c (.d (.b false))),
    .kill [0, 2, 6]])
  (.seq (.r [.mkf 12 iMayChange_1 [(.t 3), (.t 5)],
    .alf 7,
    .st 1 (.t 7) (.t 12),
    .kill [12]])
  (.seq (.r [.mkf 13 iMayChange_2 [(.t 7), (.t 5)],
    .mv 8 (.t 13),
    .kill [13]])
  (.seq (.r [.mkf 14 iMayChange_3 [(.t 7), (.t 5)],
    .mv 9 (.t 14),
    .kill [14]])
  (.seq (.seq (.r [.mv 15 (.t 1),
    .kill [1]])
  (.blk 0 (.seq (.r [.bin 17 .eql .num (.t 15) (.c (.d (.s [80, 85, 84]))),
    .mv 16 (.t 17),
    .kill [17]])
  (.cond (.t 16)
    (.pre [.keep [7, 5, 3]] (.seq (.r [.ld 19 6 true (.t 3),
      .fa 20 (.t 5) 0,
      .ld 21 1 false (.t 20),
      .call 22 true [] (.c (.clo iTagAt [])) [(.t 19), (.t 21)],
      .mv 18 (.t 22),
      .kill [3, 19, 20, 21, 22],
      .ext 23 (.t 18) 0,
      .ext 24 (.t 18) 1,
      .mv 10 (.t 23),
      .mv 11 (.t 24),
      .keep [11, 7, 5]])
    (.seq (.post (.r [.ld 25 1 false (.t 7),
      .fa 26 (.t 5) 0,
      .ld 27 1 false (.t 26),
      .call 28 true [] (.t 25) [(.t 27), (.c (.d (.b false)))],
      .mv 29 (.t 28),
      .gd 29 true (some 30) (.mv 30 (.t 11)),
      .gd 29 true (some 31) (.mv 31 (.t 30)),
      .gd 31 false (some 32) (.ld 32 1 false (.t 7)),
      .gd 31 false (some 33) (.fa 33 (.t 5) 0),
      .gd 31 false (some 34) (.ld 34 1 false (.t 33)),
      .gd 31 false (some 35) (.call 35 true [] (.c (.clo iAbove [])) [(.t 34)]),
      .gd 31 false (some 36) (.call 36 true [] (.t 32) [(.t 35), (.c (.d (.b false)))]),
      .gd 29 true (some 37) (.pick 37 (.t 31) (.c (.d (.b true))) (.t 36)),
      .pick 38 (.t 29) (.t 37) (.c (.d (.b false))),
      .mv 6 (.t 38)]) [.keep [6], .drop [67, 69, 71]])
    (.ret))))
    (.pre [.kill [3, 16]] (.seq (.r [.bin 40 .eql .num (.t 15) (.c (.d (.s [77, 75, 67, 79, 76]))),
      .mv 39 (.t 40),
      .kill [40]])
    (.cond (.t 39)
      (.pre [.keep [7, 5]] (.seq (.post (.r [.ld 41 1 false (.t 7),
        .fa 42 (.t 5) 0,
        .ld 43 1 false (.t 42),
        .call 44 true [] (.t 41) [(.t 43), (.c (.d (.b false)))],
        .mv 45 (.t 44),
        .gd 45 true (some 46) (.ld 46 1 false (.t 7)),
        .gd 45 true (some 47) (.fa 47 (.t 5) 0),
        .gd 45 true (some 48) (.ld 48 1 false (.t 47)),
        .gd 45 true (some 49) (.call 49 true [] (.c (.clo iAbove [])) [(.t 48)]),
        .gd 45 true (some 50) (.call 50 true [] (.t 46) [(.t 49), (.c (.d (.b false)))]),
        .pick 51 (.t 45) (.t 50) (.c (.d (.b false))),
        .mv 6 (.t 51)]) [.keep [6], .drop [67, 69, 71]])
      (.ret)))
      (.pre [.kill [39]] (.seq (.r [.bin 53 .eql .num (.t 15) (.c (.d (.s [80, 82, 79, 80, 80, 65, 84, 67, 72]))),
        .mv 52 (.t 53),
        .kill [53]])
      (.cond (.t 52)
        (.pre [.keep [7, 5]] (.seq (.r [.ld 54 1 false (.t 7),
          .fa 55 (.t 5) 0,
          .ld 56 1 false (.t 55),
          .call 57 true [] (.t 54) [(.t 56), (.c (.d (.b false)))],
          .kill [5, 7, 54, 55, 56],
          .mv 6 (.t 57),
          .keep [6],
          .drop [67, 69, 71]])
        (.ret)))
        (.pre [.kill [5, 7, 52]] (.seq (.r [.bin 59 .eql .num (.t 15) (.c (.d (.s [68, 69, 76, 69, 84, 69]))),
          .mv 58 (.t 59),
          .kill [59]])
        (.cond (.t 58)
          (.pre [.keep [8]] (.seq (.r [.mv 60 (.t 8),
            .call 61 true [] (.t 60) [],
            .mv 6 (.t 61),
            .keep [6],
            .drop [67, 69, 71]])
          (.ret)))
          (.pre [.kill [58]] (.seq (.r [.bin 63 .eql .num (.t 15) (.c (.d (.s [77, 79, 86, 69]))),
            .mv 62 (.t 63),
            .kill [63]])
          (.cond (.t 62)
            (.pre [.kill [15, 62]] (.seq (.r [.mv 64 (.t 8),
              .call 65 true [] (.t 64) [],
              .mv 66 (.t 65),
              .gd 66 true (some 67) (.mv 67 (.t 9)),
              .gd 66 true (some 68) (.call 68 true [] (.t 67) []),
              .kill [8, 9, 64, 65, 67],
              .pick 69 (.t 66) (.t 68) (.c (.d (.b false))),
              .mv 6 (.t 69),
              .keep [6],
              .drop [67, 69, 71]])
            (.ret)))
            (.pre [.kill [8, 62]] (.seq (.r [.bin 71 .eql .num (.t 15) (.c (.d (.s [67, 79, 80, 89]))),
              .mv 70 (.t 71),
              .kill [15, 71]])
            (.cond (.t 70)
              (.pre [.kill [70]] (.seq (.r [.mv 72 (.t 9),
                .call 73 true [] (.t 72) [],
                .mv 6 (.t 73),
                .keep [6],
                .drop [67, 69, 71]])
              (.ret)))
              (.pre [.keep [], .drop [67, 69, 71]] (.skip)))))))))))))))))))))
  (.seq (.r [.mv 6 (.c (.d (.b true)))])
  (.ret))))))⟩
def weqAsk_m : Fn := ⟨2, [.t 4], false,
  .seq (.r [.bx 2 TAsk true (.t 0),
    .bx 3 TAsk true (.t 1),
    .mv 4 (.c (.d (.b false))),
    .keep [3, 2]])
  (.seq (.seq (.r [.fa 5 (.t 2) 0,
    .ld 6 1 false (.t 5),
    .fa 7 (.t 3) 0,
    .ld 8 1 false (.t 7),
    .call 9 true [] (.c (.clo weqStringS [])) [(.t 6), (.t 8)],
    .not 10 (.t 9),
    .keep [10, 3, 2]])
  (.cond (.t 10)
    (.pre [.keep [], .drop [66, 67]] (.seq (.r [.mv 4 (.c (.d (.b false)))])
    (.ret)))
    (.pre [.kill [10]] (.skip))))
  (.seq (.seq (.r [.fa 11 (.t 2) 1,
    .ld 12 1 false (.t 11),
    .fa 13 (.t 3) 1,
    .ld 14 1 false (.t 13),
    .call 15 true [] (.c (.clo weqStringS [])) [(.t 12), (.t 14)],
    .not 16 (.t 15),
    .keep [16, 3, 2]])
  (.cond (.t 16)
    (.pre [.keep [], .drop [66, 67]] (.seq (.r [.mv 4 (.c (.d (.b false)))])
    (.ret)))
    (.pre [.kill [16]] (.skip))))
  (.seq (.seq (.r [.fa 17 (.t 2) 2,
    .ld 18 1 false (.t 17),
    .fa 19 (.t 3) 2,
    .ld 20 1 false (.t 19),
    .bin 21 .neq .flag (.t 18) (.t 20),
    .keep [21, 3, 2]])
  (.cond (.t 21)
    (.pre [.keep [], .drop [66, 67]] (.seq (.r [.mv 4 (.c (.d (.b false)))])
    (.ret)))
    (.pre [.kill [21]] (.skip))))
  (.seq (.seq (.r [.fa 22 (.t 2) 3,
    .ld 23 1 false (.t 22),
    .fa 24 (.t 3) 3,
    .ld 25 1 false (.t 24),
    .bin 26 .neq .flag (.t 23) (.t 25),
    .keep [26, 3, 2]])
  (.cond (.t 26)
    (.pre [.keep [], .drop [66, 67]] (.seq (.r [.mv 4 (.c (.d (.b false)))])
    (.ret)))
    (.pre [.kill [26]] (.skip))))
  (.seq (.seq (.r [.fa 27 (.t 2) 4,
    .ld 28 1 false (.t 27),
    .fa 29 (.t 3) 4,
    .ld 30 1 false (.t 29),
    .call 31 true [] (.c (.clo weqIntS [])) [(.t 28), (.t 30)],
    .not 32 (.t 31),
    .keep [32, 3, 2]])
  (.cond (.t 32)
    (.pre [.keep [], .drop [66, 67]] (.seq (.r [.mv 4 (.c (.d (.b false)))])
    (.ret)))
    (.pre [.kill [32]] (.skip))))
  (.seq (.seq (.r [.fa 33 (.t 2) 5,
    .ld 34 1 false (.t 33),
    .fa 35 (.t 3) 5,
    .ld 36 1 false (.t 35),
    .bin 37 .neq .num (.t 34) (.t 36),
    .keep [37],
    .drop [66, 67]])
  (.cond (.t 37)
    (.pre [.keep []] (.seq (.r [.mv 4 (.c (.d (.b false)))])
    (.ret)))
    (.pre [.keep []] (.skip))))
  (.seq (.r [.mv 4 (.c (.d (.b true)))])
  (.ret))))))))⟩
/-- live: [0, 1, 5]; objects: [] -/
def wszResS_l0 : C :=
  .seq (.seq (.r [.mv 12 (.t 5),
      .mv 13 (.t 0),
      .len 14 (.t 13),
      .bin 15 .lss .num (.t 12) (.t 14),
      .kill [12, 13, 14]])
    (.cond (.t 15)
      (.pre [.kill [15]] (.skip))
      (.pre [.keep [1]] (.ex 0))))
    (.seq (.blk 1 (.seq (.r [.mv 18 (.t 0),
      .mv 19 (.t 5),
      .ia 20 5 (.t 18) (.t 19),
      .ld 21 5 true (.t 20),
      .mv 22 (.t 1),
      .call 23 true [] (.c (.clo wszRes [])) [(.t 21), (.t 22)],
      .kill [1, 18, 19, 20, 21, 22],
      .mv 1 (.t 23),
      .keep [5, 1, 0]])
    (.seq (.r [.mv 24 (.t 1),
      .bin 25 .lss .num (.t 24) (.c (.d (.i .i64 0))),
      .kill [24]])
    (.cond (.t 25)
      (.pre [.keep []] (.seq (.r [.mv 4 (.c (.d (.i .i64 (-1))))])
      (.ret)))
      (.pre [.kill [25]] (.skip))))))
    (.r [.mv 16 (.t 5),
      .bin 17 .add .num (.t 16) (.c (.d (.i .i64 1))),
      .mv 5 (.t 17),
      .kill [16, 17]]))
def wszResS_m : Fn := ⟨2, [.t 4], false,
  .seq (.r [.mv 4 (.c (.d (.i .i64 0))),
    .kill [4]])
  (.seq (.r [.mv 6 (.t 1),
    .mv 7 (.t 0),
    .len 8 (.t 7),
    .bin 9 .sub .num (.t 6) (.t 8),
    .mv 1 (.t 9),
    .keep [1, 0]])
  (.seq (.seq (.r [.mv 10 (.t 1),
    .bin 11 .lss .num (.t 10) (.c (.d (.i .i64 0))),
    .kill [10]])
  (.cond (.t 11)
    (.pre [.keep []] (.seq (.r [.mv 4 (.c (.d (.i .i64 (-1))))])
    (.ret)))
    (.pre [.kill [11]] (.skip))))
  (.seq (.seq (.r [.mv 5 (.c (.d (.i .i64 0)))])
  (.blk 0 (.pre [.keep [5, 1, 0]] (.loop wszResS_l0))))
  (.seq (.r [.mv 26 (.t 1),
    .mv 4 (.t 26),
    .keep [4]])
  (.ret)))))⟩
/-- live: [0, 1, 5]; objects: [] -/
def wszLockS_l0 : C :=
  .seq (.seq (.r [.mv 12 (.t 5),
      .mv 13 (.t 0),
      .len 14 (.t 13),
      .bin 15 .lss .num (.t 12) (.t 14),
      .kill [12, 13, 14]])
    (.cond (.t 15)
      (.pre [.kill [15]] (.skip))
      (.pre [.keep [1]] (.ex 0))))
    (.seq (.blk 1 (.seq (.r [.mv 18 (.t 0),
      .mv 19 (.t 5),
      .ia 20 5 (.t 18) (.t 19),
      .ld 21 5 true (.t 20),
      .mv 22 (.t 1),
      .call 23 true [] (.c (.clo wszLock [])) [(.t 21), (.t 22)],
      .kill [1, 18, 19, 20, 21, 22],
      .mv 1 (.t 23),
      .keep [5, 1, 0]])
    (.seq (.r [.mv 24 (.t 1),
      .bin 25 .lss .num (.t 24) (.c (.d (.i .i64 0))),
      .kill [24]])
    (.cond (.t 25)
      (.pre [.keep []] (.seq (.r [.mv 4 (.c (.d (.i .i64 (-1))))])
      (.ret)))
      (.pre [.kill [25]] (.skip))))))
    (.r [.mv 16 (.t 5),
      .bin 17 .add .num (.t 16) (.c (.d (.i .i64 1))),
      .mv 5 (.t 17),
      .kill [16, 17]]))
def wszLockS_m : Fn := ⟨2, [.t 4], false,
  .seq (.r [.mv 4 (.c (.d (.i .i64 0))),
    .kill [4]])
  (.seq (.r [.mv 6 (.t 1),
    .mv 7 (.t 0),
    .len 8 (.t 7),
    .bin 9 .sub .num (.t 6) (.t 8),
    .mv 1 (.t 9),
    .keep [1, 0]])
  (.seq (.seq (.r [.mv 10 (.t 1),
    .bin 11 .lss .num (.t 10) (.c (.d (.i .i64 0))),
    .kill [10]])
  (.cond (.t 11)
    (.pre [.keep []] (.seq (.r [.mv 4 (.c (.d (.i .i64 (-1))))])
    (.ret)))
    (.pre [.kill [11]] (.skip))))
  (.seq (.seq (.r [.mv 5 (.c (.d (.i .i64 0)))])
  (.blk 0 (.pre [.keep [5, 1, 0]] (.loop wszLockS_l0))))
  (.seq (.r [.mv 26 (.t 1),
    .mv 4 (.t 26),
    .keep [4]])
  (.ret)))))⟩
def wszIntS_m : Fn := ⟨2, [.t 4], false,
  .seq (.r [.mv 4 (.c (.d (.i .i64 0))),
    .kill [4]])
  (.seq (.r [.mv 5 (.t 1),
    .mv 6 (.t 0),
    .len 7 (.t 6),
    .bin 8 .sub .num (.t 5) (.t 7),
    .kill [0, 1, 5, 6, 7],
    .mv 1 (.t 8),
    .keep [1]])
  (.seq (.seq (.r [.mv 9 (.t 1),
    .bin 10 .lss .num (.t 9) (.c (.d (.i .i64 0))),
    .kill [9]])
  (.cond (.t 10)
    (.pre [.keep []] (.seq (.r [.mv 4 (.c (.d (.i .i64 (-1))))])
    (.ret)))
    (.pre [.kill [10]] (.skip))))
  (.seq (.r [.mv 11 (.t 1),
    .mv 4 (.t 11),
    .keep [4]])
  (.ret))))⟩
/-- live: [0, 3, 4]; objects: [71] -/
def wtoResS_l0 : C :=
  .seq (.seq (.r [.mv 8 (.t 4),
      .mv 9 (.t 0),
      .len 10 (.t 9),
      .bin 11 .lss .num (.t 8) (.t 10),
      .kill [8, 9, 10]])
    (.cond (.t 11)
      (.pre [.kill [11]] (.skip))
      (.pre [.keep [3]] (.ex 0))))
    (.seq (.blk 1 (.r [.mv 14 (.t 3),
      .mv 15 (.t 4),
      .mv 16 (.t 0),
      .mv 17 (.t 4),
      .ia 18 5 (.t 16) (.t 17),
      .ld 19 5 true (.t 18),
      .call 20 false [] (.c (.clo wtoRes [])) [(.t 19)],
      .ia 21 5 (.t 14) (.t 15),
      .kill [14, 15, 16, 17, 18, 19],
      .st 5 (.t 21) (.t 20),
      .keep [4, 3, 0],
      .drop [21064, 21068]]))
    (.r [.mv 12 (.t 4),
      .bin 13 .add .num (.t 12) (.c (.d (.i .i64 1))),
      .mv 4 (.t 13),
      .kill [12, 13]]))
def wtoResS_m : Fn := ⟨1, [.t 2], false,
  .seq (.r [.mv 2 (.c (.nil TRes)),
    .opn 2 2 false,
    .kill [2],
    .drop [66]])
  (.seq (.r [.mv 5 (.t 0),
    .len 6 (.t 5),
    .mk 7 TRes 80 (.t 6),
    .mv 3 (.t 7),
    .keep [3, 0]])
  (.seq (.seq (.r [.mv 4 (.c (.d (.i .i64 0)))])
  (.blk 0 (.pre [.keep [4, 3, 0]] (.loop wtoResS_l0))))
  (.seq (.r [.mv 22 (.t 3),
    .mv 2 (.t 22),
    .ren 71 66,
    .keep [2],
    .drop [71]])
  (.ret))))⟩
/-- live: [0, 3, 4]; objects: [71] -/
def wtoLockS_l0 : C :=
  .seq (.seq (.r [.mv 8 (.t 4),
      .mv 9 (.t 0),
      .len 10 (.t 9),
      .bin 11 .lss .num (.t 8) (.t 10),
      .kill [8, 9, 10]])
    (.cond (.t 11)
      (.pre [.kill [11]] (.skip))
      (.pre [.keep [3]] (.ex 0))))
    (.seq (.blk 1 (.r [.mv 14 (.t 3),
      .mv 15 (.t 4),
      .mv 16 (.t 0),
      .mv 17 (.t 4),
      .ia 18 5 (.t 16) (.t 17),
      .ld 19 5 true (.t 18),
      .call 20 false [] (.c (.clo wtoLock [])) [(.t 19)],
      .ia 21 5 (.t 14) (.t 15),
      .kill [14, 15, 16, 17, 18, 19],
      .st 5 (.t 21) (.t 20),
      .keep [4, 3, 0],
      .drop [21065]]))
    (.r [.mv 12 (.t 4),
      .bin 13 .add .num (.t 12) (.c (.d (.i .i64 1))),
      .mv 4 (.t 13),
      .kill [12, 13]]))
def wtoLockS_m : Fn := ⟨1, [.t 2], false,
  .seq (.r [.mv 2 (.c (.nil TLock)),
    .opn 2 2 false,
    .kill [2],
    .drop [66]])
  (.seq (.r [.mv 5 (.t 0),
    .len 6 (.t 5),
    .mk 7 TLock 48 (.t 6),
    .mv 3 (.t 7),
    .keep [3, 0]])
  (.seq (.seq (.r [.mv 4 (.c (.d (.i .i64 0)))])
  (.blk 0 (.pre [.keep [4, 3, 0]] (.loop wtoLockS_l0))))
  (.seq (.r [.mv 22 (.t 3),
    .mv 2 (.t 22),
    .ren 71 66,
    .keep [2],
    .drop [71]])
  (.ret))))⟩
/-- live: [0, 3, 4]; objects: [71] -/
def wtoIntS_l0 : C :=
  .seq (.seq (.r [.mv 8 (.t 4),
      .mv 9 (.t 0),
      .len 10 (.t 9),
      .bin 11 .lss .num (.t 8) (.t 10),
      .kill [8, 9, 10]])
    (.cond (.t 11)
      (.pre [.kill [11]] (.skip))
      (.pre [.keep [3]] (.ex 0))))
    (.seq (.blk 1 (.r [.mv 14 (.t 3),
      .mv 15 (.t 4),
      .mv 16 (.t 0),
      .mv 17 (.t 4),
      .ia 18 1 (.t 16) (.t 17),
      .ld 19 1 false (.t 18),
      .ia 20 1 (.t 14) (.t 15),
      .kill [14, 15, 16, 17, 18],
      .st 1 (.t 20) (.t 19),
      .keep [4, 3, 0]]))
    (.r [.mv 12 (.t 4),
      .bin 13 .add .num (.t 12) (.c (.d (.i .i64 1))),
      .mv 4 (.t 13),
      .kill [12, 13]]))
def wtoIntS_m : Fn := ⟨1, [.t 2], false,
  .seq (.r [.mv 2 (.c (.nil (.int .i64))),
    .opn 2 2 false,
    .kill [2],
    .drop [66]])
  (.seq (.r [.mv 5 (.t 0),
    .len 6 (.t 5),
    .mk 7 (.int .i64) 8 (.t 6),
    .mv 3 (.t 7),
    .keep [3, 0]])
  (.seq (.seq (.r [.mv 4 (.c (.d (.i .i64 0)))])
  (.blk 0 (.pre [.keep [4, 3, 0]] (.loop wtoIntS_l0))))
  (.seq (.r [.mv 21 (.t 3),
    .mv 2 (.t 21),
    .ren 71 66,
    .keep [2],
    .drop [71]])
  (.ret))))⟩
/-- live: [0, 1, 5]; objects: [] -/
def weqResS_l0 : C :=
  .seq (.seq (.r [.mv 11 (.t 5),
      .mv 12 (.t 0),
      .len 13 (.t 12),
      .bin 14 .lss .num (.t 11) (.t 13),
      .kill [11, 12, 13]])
    (.cond (.t 14)
      (.pre [.kill [14]] (.skip))
      (.pre [.keep []] (.ex 0))))
    (.seq (.blk 1 (.seq (.post (.r [.mv 17 (.t 0),
      .mv 18 (.t 5),
      .ia 19 5 (.t 17) (.t 18),
      .ld 20 5 true (.t 19),
      .mv 21 (.t 1),
      .mv 22 (.t 5),
      .ia 23 5 (.t 21) (.t 22),
      .ld 24 5 true (.t 23),
      .call 25 true [] (.c (.clo weqRes [])) [(.t 20), (.t 24)],
      .not 26 (.t 25)]) [.keep [26, 5, 1, 0]])
    (.cond (.t 26)
      (.pre [.keep []] (.seq (.r [.mv 4 (.c (.d (.b false)))])
      (.ret)))
      (.pre [.kill [26]] (.skip)))))
    (.r [.mv 15 (.t 5),
      .bin 16 .add .num (.t 15) (.c (.d (.i .i64 1))),
      .mv 5 (.t 16),
      .kill [15, 16]]))
def weqResS_m : Fn := ⟨2, [.t 4], false,
  .seq (.r [.mv 4 (.c (.d (.b false))),
    .kill [4]])
  (.seq (.seq (.r [.mv 6 (.t 0),
    .len 7 (.t 6),
    .mv 8 (.t 1),
    .len 9 (.t 8),
    .bin 10 .neq .num (.t 7) (.t 9),
    .keep [10, 1, 0]])
  (.cond (.t 10)
    (.pre [.keep []] (.seq (.r [.mv 4 (.c (.d (.b false)))])
    (.ret)))
    (.pre [.kill [10]] (.skip))))
  (.seq (.seq (.r [.mv 5 (.c (.d (.i .i64 0)))])
  (.blk 0 (.pre [.keep [5, 1, 0]] (.loop weqResS_l0))))
  (.seq (.r [.mv 4 (.c (.d (.b true)))])
  (.ret))))⟩
/-- live: [0, 1, 5]; objects: [] -/
def weqLockS_l0 : C :=
  .seq (.seq (.r [.mv 11 (.t 5),
      .mv 12 (.t 0),
      .len 13 (.t 12),
      .bin 14 .lss .num (.t 11) (.t 13),
      .kill [11, 12, 13]])
    (.cond (.t 14)
      (.pre [.kill [14]] (.skip))
      (.pre [.keep []] (.ex 0))))
    (.seq (.blk 1 (.seq (.post (.r [.mv 17 (.t 0),
      .mv 18 (.t 5),
      .ia 19 5 (.t 17) (.t 18),
      .ld 20 5 true (.t 19),
      .mv 21 (.t 1),
      .mv 22 (.t 5),
      .ia 23 5 (.t 21) (.t 22),
      .ld 24 5 true (.t 23),
      .call 25 true [] (.c (.clo weqLock [])) [(.t 20), (.t 24)],
      .not 26 (.t 25)]) [.keep [26, 5, 1, 0]])
    (.cond (.t 26)
      (.pre [.keep []] (.seq (.r [.mv 4 (.c (.d (.b false)))])
      (.ret)))
      (.pre [.kill [26]] (.skip)))))
    (.r [.mv 15 (.t 5),
      .bin 16 .add .num (.t 15) (.c (.d (.i .i64 1))),
      .mv 5 (.t 16),
      .kill [15, 16]]))
def weqLockS_m : Fn := ⟨2, [.t 4], false,
  .seq (.r [.mv 4 (.c (.d (.b false))),
    .kill [4]])
  (.seq (.seq (.r [.mv 6 (.t 0),
    .len 7 (.t 6),
    .mv 8 (.t 1),
    .len 9 (.t 8),
    .bin 10 .neq .num (.t 7) (.t 9),
    .keep [10, 1, 0]])
  (.cond (.t 10)
    (.pre [.keep []] (.seq (.r [.mv 4 (.c (.d (.b false)))])
    (.ret)))
    (.pre [.kill [10]] (.skip))))
  (.seq (.seq (.r [.mv 5 (.c (.d (.i .i64 0)))])
  (.blk 0 (.pre [.keep [5, 1, 0]] (.loop weqLockS_l0))))
  (.seq (.r [.mv 4 (.c (.d (.b true)))])
  (.ret))))⟩
/-- live: [0, 1, 5]; objects: [] -/
def weqIntS_l0 : C :=
  .seq (.seq (.r [.mv 11 (.t 5),
      .mv 12 (.t 0),
      .len 13 (.t 12),
      .bin 14 .lss .num (.t 11) (.t 13),
      .kill [11, 12, 13]])
    (.cond (.t 14)
      (.pre [.kill [14]] (.skip))
      (.pre [.keep []] (.ex 0))))
    (.seq (.blk 1 (.seq (.post (.r [.mv 17 (.t 0),
      .mv 18 (.t 5),
      .ia 19 1 (.t 17) (.t 18),
      .ld 20 1 false (.t 19),
      .mv 21 (.t 1),
      .mv 22 (.t 5),
      .ia 23 1 (.t 21) (.t 22),
      .ld 24 1 false (.t 23),
      .bin 25 .neq .num (.t 20) (.t 24)]) [.keep [25, 5, 1, 0]])
    (.cond (.t 25)
      (.pre [.keep []] (.seq (.r [.mv 4 (.c (.d (.b false)))])
      (.ret)))
      (.pre [.kill [25]] (.skip)))))
    (.r [.mv 15 (.t 5),
      .bin 16 .add .num (.t 15) (.c (.d (.i .i64 1))),
      .mv 5 (.t 16),
      .kill [15, 16]]))
def weqIntS_m : Fn := ⟨2, [.t 4], false,
  .seq (.r [.mv 4 (.c (.d (.b false))),
    .kill [4]])
  (.seq (.seq (.r [.mv 6 (.t 0),
    .len 7 (.t 6),
    .mv 8 (.t 1),
    .len 9 (.t 8),
    .bin 10 .neq .num (.t 7) (.t 9),
    .keep [10, 1, 0]])
  (.cond (.t 10)
    (.pre [.keep []] (.seq (.r [.mv 4 (.c (.d (.b false)))])
    (.ret)))
    (.pre [.kill [10]] (.skip))))
  (.seq (.seq (.r [.mv 5 (.c (.d (.i .i64 0)))])
  (.blk 0 (.pre [.keep [5, 1, 0]] (.loop weqIntS_l0))))
  (.seq (.r [.mv 4 (.c (.d (.b true)))])
  (.ret))))⟩
/-- live: [0, 1, 5]; objects: [] -/
def wszStringS_l0 : C :=
  .seq (.seq (.r [.mv 12 (.t 5),
      .mv 13 (.t 0),
      .len 14 (.t 13),
      .bin 15 .lss .num (.t 12) (.t 14),
      .kill [12, 13, 14]])
    (.cond (.t 15)
      (.pre [.kill [15]] (.skip))
      (.pre [.keep [1]] (.ex 0))))
    (.seq (.blk 1 (.seq (.r [.mv 18 (.t 1),
      .mv 19 (.t 0),
      .mv 20 (.t 5),
      .ia 21 1 (.t 19) (.t 20),
      .ld 22 1 false (.t 21),
      .lns 23 (.t 22),
      .kill [1, 19, 20, 21, 22],
      .bin 24 .sub .num (.t 18) (.t 23),
      .mv 1 (.t 24),
      .keep [5, 1, 0]])
    (.seq (.r [.mv 25 (.t 1),
      .bin 26 .lss .num (.t 25) (.c (.d (.i .i64 0))),
      .kill [25]])
    (.cond (.t 26)
      (.pre [.keep []] (.seq (.r [.mv 4 (.c (.d (.i .i64 (-1))))])
      (.ret)))
      (.pre [.kill [26]] (.skip))))))
    (.r [.mv 16 (.t 5),
      .bin 17 .add .num (.t 16) (.c (.d (.i .i64 1))),
      .mv 5 (.t 17),
      .kill [16, 17]]))
def wszStringS_m : Fn := ⟨2, [.t 4], false,
  .seq (.r [.mv 4 (.c (.d (.i .i64 0))),
    .kill [4]])
  (.seq (.r [.mv 6 (.t 1),
    .mv 7 (.t 0),
    .len 8 (.t 7),
    .bin 9 .sub .num (.t 6) (.t 8),
    .mv 1 (.t 9),
    .keep [1, 0]])
  (.seq (.seq (.r [.mv 10 (.t 1),
    .bin 11 .lss .num (.t 10) (.c (.d (.i .i64 0))),
    .kill [10]])
  (.cond (.t 11)
    (.pre [.keep []] (.seq (.r [.mv 4 (.c (.d (.i .i64 (-1))))])
    (.ret)))
    (.pre [.kill [11]] (.skip))))
  (.seq (.seq (.r [.mv 5 (.c (.d (.i .i64 0)))])
  (.blk 0 (.pre [.keep [5, 1, 0]] (.loop wszStringS_l0))))
  (.seq (.r [.mv 27 (.t 1),
    .mv 4 (.t 27),
    .keep [4]])
  (.ret)))))⟩
def sTagAt_m : Fn := ⟨2, [.t 4, .t 5], false,
  .seq (.r [.bx 2 TSrv true (.t 0),
    .mv 4 (.c (.d (.s []))),
    .mv 5 (.c (.d (.b false))),
    .keep [2, 1]])
  (.seq (.seq (.r [.mv 7 (.t 1),
    .len 8 (.t 7),
    .bin 9 .eql .num (.t 8) (.c (.d (.i .i64 0))),
    .kill [7, 8]])
  (.cond (.t 9)
    (.pre [.keep [], .drop [66]] (.seq (.r [.call 10 true [] (.c (.clo sTagText [])) [(.c (.d (.i .i64 0)))],
      .mv 4 (.t 10),
      .mv 5 (.c (.d (.b true))),
      .kill [10]])
    (.ret)))
    (.pre [.kill [9]] (.skip))))
  (.seq (.r [.fa 11 (.t 2) 0,
    .ld 12 1 false (.t 11),
    .mv 13 (.t 1),
    .call 14 true [] (.c (.clo sFindRes [])) [(.t 12), (.t 13)],
    .mv 6 (.t 14),
    .keep [6, 2]])
  (.seq (.seq (.r [.mv 15 (.t 6),
    .bin 16 .lss .num (.t 15) (.c (.d (.i .i64 0))),
    .kill [15]])
  (.cond (.t 16)
    (.pre [.keep [], .drop [66]] (.seq (.r [.mv 4 (.c (.d (.s []))),
      .mv 5 (.c (.d (.b false)))])
    (.ret)))
    (.pre [.kill [16]] (.skip))))
  (.seq (.r [.fa 17 (.t 2) 0,
    .ld 18 1 false (.t 17),
    .mv 19 (.t 6),
    .ia 20 5 (.t 18) (.t 19),
    .kill [2, 6, 17, 18, 19],
    .fa 21 (.t 20) 3,
    .ld 22 1 false (.t 21),
    .call 23 true [] (.c (.clo sTagText [])) [(.t 22)],
    .mv 4 (.t 23),
    .mv 5 (.c (.d (.b true))),
    .keep [5, 4],
    .drop [66]])
  (.ret)))))⟩
/-- live: [0, 1, 2, 3, 9, 10, 11]; objects: [] -/
def sMayTurn_l0 : C :=
  .seq (.seq (.r [.mv 13 (.t 11),
      .mv 14 (.t 0),
      .len 15 (.t 14),
      .bin 16 .lss .num (.t 13) (.t 15),
      .kill [13, 14, 15]])
    (.cond (.t 16)
      (.pre [.kill [16]] (.skip))
      (.pre [.keep [10, 9]] (.ex 0))))
    (.seq (.blk 1 (.seq (.seq (.r [.mv 19 (.t 0),
      .mv 20 (.t 11),
      .ia 21 5 (.t 19) (.t 20),
      .ld 22 5 true (.t 21),
      .mv 23 (.t 1),
      .call 24 true [] (.c (.clo sCovers [])) [(.t 22), (.t 23)],
      .kill [19, 20, 21, 22, 23],
      .not 25 (.t 24),
      .mv 26 (.t 25),
      .gd 26 true (some 27) (.mv 27 (.t 2)),
      .gd 26 true (some 28) (.not 28 (.t 27)),
      .gd 26 true (some 29) (.mv 29 (.t 28)),
      .gd 29 false (some 30) (.mv 30 (.t 0)),
      .gd 29 false (some 31) (.mv 31 (.t 11)),
      .gd 29 false (some 32) (.ia 32 5 (.t 30) (.t 31)),
      .kill [24, 25, 27, 28, 30, 31],
      .gd 29 false (some 33) (.fa 33 (.t 32) 1),
      .gd 29 false (some 34) (.ld 34 1 false (.t 33)),
      .gd 29 false (some 35) (.mv 35 (.t 1)),
      .gd 29 false (some 36) (.call 36 true [] (.c (.clo sUnder [])) [(.t 34), (.t 35)]),
      .gd 29 false (some 37) (.not 37 (.t 36)),
      .kill [32, 33, 34, 35, 36],
      .gd 26 true (some 38) (.pick 38 (.t 29) (.c (.d (.b true))) (.t 37)),
      .pick 39 (.t 26) (.t 38) (.c (.d (.b false))),
      .keep [39, 11, 10, 9, 3, 2, 1, 0]])
    (.cond (.t 39)
      (.pre [.kill [39]] (.ex 1))
      (.pre [.kill [39]] (.skip))))
    (.seq (.r [.mv 40 (.t 3),
      .mv 41 (.t 0),
      .mv 42 (.t 11),
      .ia 43 5 (.t 41) (.t 42),
      .fa 44 (.t 43) 0,
      .ld 45 1 false (.t 44),
      .call 46 true [] (.c (.clo sl13Has [])) [(.t 40), (.t 45)],
      .kill [40, 41, 42, 43, 44, 45],
      .mv 12 (.t 46),
      .kill [40, 41, 42, 43, 44, 45, 46]])
    (.seq (.seq (.r [.mv 47 (.t 0),
      .mv 48 (.t 11),
      .ia 49 5 (.t 47) (.t 48),
      .fa 50 (.t 49) 3,
      .ld 51 1 false (.t 50),
      .not 52 (.t 51),
      .kill [47, 48, 49, 50, 51],
      .mv 53 (.t 52),
      .gd 53 true (some 54) (.mv 54 (.t 12)),
      .gd 53 true (some 55) (.not 55 (.t 54)),
      .pick 56 (.t 53) (.t 55) (.c (.d (.b false))),
      .kill [47, 48, 49, 50, 51, 52, 53, 54, 55]])
    (.cond (.t 56)
      (.pre [.keep []] (.seq (.r [.mv 8 (.c (.d (.b false)))])
      (.ret)))
      (.pre [.kill [56]] (.skip))))
    (.seq (.r [.mv 57 (.t 9),
      .mv 58 (.t 57),
      .gd 58 false (some 59) (.mv 59 (.t 0)),
      .gd 58 false (some 60) (.mv 60 (.t 11)),
      .gd 58 false (some 61) (.ia 61 5 (.t 59) (.t 60)),
      .gd 58 false (some 62) (.fa 62 (.t 61) 3),
      .kill [9, 57, 59, 60, 61],
      .gd 58 false (some 63) (.ld 63 1 false (.t 62)),
      .pick 64 (.t 58) (.c (.d (.b true))) (.t 63),
      .mv 9 (.t 64),
      .kill [57, 58, 59, 60, 61, 62, 63, 64]])
    (.r [.mv 65 (.t 10),
      .mv 66 (.t 65),
      .gd 66 false (some 67) (.mv 67 (.t 0)),
      .gd 66 false (some 68) (.mv 68 (.t 11)),
      .gd 66 false (some 69) (.ia 69 5 (.t 67) (.t 68)),
      .gd 66 false (some 70) (.fa 70 (.t 69) 3),
      .kill [10, 65, 67, 68, 69],
      .gd 66 false (some 71) (.ld 71 1 false (.t 70)),
      .gd 66 false (some 72) (.mv 72 (.t 71)),
      .gd 72 true (some 73) (.mv 73 (.t 12)),
      .gd 66 false (some 74) (.pick 74 (.t 72) (.t 73) (.c (.d (.b false)))),
      .kill [12, 70, 71, 72, 73],
      .pick 75 (.t 66) (.c (.d (.b true))) (.t 74),
      .mv 10 (.t 75),
      .keep [11, 10, 9, 3, 2, 1, 0]]))))))
    (.r [.mv 17 (.t 11),
      .bin 18 .add .num (.t 17) (.c (.d (.i .i64 1))),
      .mv 11 (.t 18),
      .kill [17, 18]]))
def sMayTurn_m : Fn := ⟨4, [.t 8], false,
  .seq (.r [.mv 8 (.c (.d (.b false))),
    .kill [8]])
  (.seq (.r [.mv 9 (.c (.d (.b false)))])
  (.seq (.r [.mv 10 (.c (.d (.b false)))])
  (.seq (.seq (.r [.mv 11 (.c (.d (.i .i64 0)))])
  (.blk 0 (.pre [.keep [11, 10, 9, 3, 2, 1, 0]] (.loop sMayTurn_l0))))
  (.seq (.r [.mv 76 (.t 9),
    .not 77 (.t 76),
    .mv 78 (.t 77),
    .gd 78 false (some 79) (.mv 79 (.t 10)),
    .pick 80 (.t 78) (.c (.d (.b true))) (.t 79),
    .kill [9, 10, 76, 77, 78, 79],
    .mv 8 (.t 80),
    .keep [8]])
  (.ret)))))⟩
def sl16Both_m : Fn := ⟨4, [.t 8], false,
  .seq (.r [.bx 4 TSrv true (.t 0),
    .mv 8 (.c (.d (.b false))),
    .kill [0, 8]])
  (.seq (.post (.r [.fa 9 (.t 4) 1,
    .ld 10 1 false (.t 9),
    .mv 11 (.t 1),
    .mv 12 (.t 2),
    .mv 13 (.t 3),
    .call 14 true [] (.c (.clo sMayTurn [])) [(.t 10), (.t 11), (.t 12), (.t 13)],
    .mv 15 (.t 14),
    .gd 15 true (some 16) (.fa 16 (.t 4) 1),
    .gd 15 true (some 17) (.ld 17 1 false (.t 16)),
    .gd 15 true (some 18) (.mv 18 (.t 1)),
    .gd 15 true (some 19) (.call 19 true [] (.c (.clo sAbove [])) [(.t 18)]),
    .gd 15 true (some 20) (.mv 20 (.t 3)),
    .gd 15 true (some 21) (.call 21 true [] (.c (.clo sMayTurn [])) [(.t 17), (.t 19), (.c (.d (.b false))), (.t 20)]),
    .pick 22 (.t 15) (.t 21) (.c (.d (.b false))),
    .mv 8 (.t 22)]) [.keep [8], .drop [68]])
  (.ret))⟩
/-- live: [0, 3, 4]; objects: [71] -/
def wtoStringS_l0 : C :=
  .seq (.seq (.r [.mv 8 (.t 4),
      .mv 9 (.t 0),
      .len 10 (.t 9),
      .bin 11 .lss .num (.t 8) (.t 10),
      .kill [8, 9, 10]])
    (.cond (.t 11)
      (.pre [.kill [11]] (.skip))
      (.pre [.keep [3]] (.ex 0))))
    (.seq (.blk 1 (.r [.mv 14 (.t 3),
      .mv 15 (.t 4),
      .mv 16 (.t 0),
      .mv 17 (.t 4),
      .ia 18 1 (.t 16) (.t 17),
      .ld 19 1 false (.t 18),
      .ia 20 1 (.t 14) (.t 15),
      .kill [14, 15, 16, 17, 18],
      .st 1 (.t 20) (.t 19),
      .keep [4, 3, 0]]))
    (.r [.mv 12 (.t 4),
      .bin 13 .add .num (.t 12) (.c (.d (.i .i64 1))),
      .mv 4 (.t 13),
      .kill [12, 13]]))
def wtoStringS_m : Fn := ⟨1, [.t 2], false,
  .seq (.r [.mv 2 (.c (.nil .str)),
    .opn 2 2 false,
    .kill [2],
    .drop [66]])
  (.seq (.r [.mv 5 (.t 0),
    .len 6 (.t 5),
    .mk 7 .str 16 (.t 6),
    .mv 3 (.t 7),
    .keep [3, 0]])
  (.seq (.seq (.r [.mv 4 (.c (.d (.i .i64 0)))])
  (.blk 0 (.pre [.keep [4, 3, 0]] (.loop wtoStringS_l0))))
  (.seq (.r [.mv 21 (.t 3),
    .mv 2 (.t 21),
    .ren 71 66,
    .keep [2],
    .drop [71]])
  (.ret))))⟩
def iTagAt_m : Fn := ⟨2, [.t 4, .t 5], false,
  .seq (.r [.bx 2 TSrv true (.t 0),
    .mv 4 (.c (.d (.s []))),
    .mv 5 (.c (.d (.b false))),
    .keep [2, 1]])
  (.seq (.seq (.r [.mv 7 (.t 1),
    .len 8 (.t 7),
    .bin 9 .eql .num (.t 8) (.c (.d (.i .i64 0))),
    .kill [7, 8]])
  (.cond (.t 9)
    (.pre [.keep [], .drop [66]] (.seq (.r [.call 10 true [] (.c (.clo iTagText [])) [(.c (.d (.i .i64 0)))],
      .mv 4 (.t 10),
      .mv 5 (.c (.d (.b true))),
      .kill [10]])
    (.ret)))
    (.pre [.kill [9]] (.skip))))
  (.seq (.r [.fa 11 (.t 2) 0,
    .ld 12 1 false (.t 11),
    .mv 13 (.t 1),
    .call 14 true [] (.c (.clo iFindRes [])) [(.t 12), (.t 13)],
    .mv 6 (.t 14),
    .keep [6, 2]])
  (.seq (.seq (.r [.mv 15 (.t 6),
    .bin 16 .lss .num (.t 15) (.c (.d (.i .i64 0))),
    .kill [15]])
  (.cond (.t 16)
    (.pre [.keep [], .drop [66]] (.seq (.r [.mv 4 (.c (.d (.s []))),
      .mv 5 (.c (.d (.b false)))])
    (.ret)))
    (.pre [.kill [16]] (.skip))))
  (.seq (.r [.fa 17 (.t 2) 0,
    .ld 18 1 false (.t 17),
    .mv 19 (.t 6),
    .ia 20 5 (.t 18) (.t 19),
    .kill [2, 6, 17, 18, 19],
    .fa 21 (.t 20) 3,
    .ld 22 1 false (.t 21),
    .call 23 true [] (.c (.clo iTagText [])) [(.t 22)],
    .mv 4 (.t 23),
    .mv 5 (.c (.d (.b true))),
    .keep [5, 4],
    .drop [66]])
  (.ret)))))⟩
def iMayChange_1_m : Fn := ⟨4, [.t 6], false,
  .seq (.r [.mv 6 (.c (.d (.b false))),
    .kill [6]])
  (.seq (.r [.fa 7 (.t 2) 1,
    .ld 8 1 false (.t 7),
    .mv 9 (.t 0),
    .mv 10 (.t 1),
    .fa 11 (.t 3) 4,
    .kill [0, 1, 2, 3, 7],
    .ld 12 1 false (.t 11),
    .call 13 true [] (.c (.clo iMayTurn [])) [(.t 8), (.t 9), (.t 10), (.t 12)],
    .kill [8, 9, 10, 11, 12],
    .mv 6 (.t 13),
    .keep [6]])
  (.ret))⟩
def iMayChange_2_m : Fn := ⟨2, [.t 2], false,
  .seq (.r [.mv 2 (.c (.d (.b false))),
    .kill [2]])
  (.seq (.post (.r [.ld 3 1 false (.t 0),
    .fa 4 (.t 1) 0,
    .ld 5 1 false (.t 4),
    .call 6 true [] (.t 3) [(.t 5), (.c (.d (.b true)))],
    .mv 7 (.t 6),
    .gd 7 true (some 8) (.ld 8 1 false (.t 0)),
    .gd 7 true (some 9) (.fa 9 (.t 1) 0),
    .gd 7 true (some 10) (.ld 10 1 false (.t 9)),
    .gd 7 true (some 11) (.call 11 true [] (.c (.clo iAbove [])) [(.t 10)]),
    .gd 7 true (some 12) (.call 12 true [] (.t 8) [(.t 11), (.c (.d (.b false)))]),
    .pick 13 (.t 7) (.t 12) (.c (.d (.b false))),
    .mv 2 (.t 13)]) [.keep [2]])
  (.ret))⟩
def iAbove_m : Fn := ⟨1, [.t 2], false,
  .seq (.r [.mv 2 (.c (.nil .str)),
    .opn 2 2 false,
    .kill [2],
    .drop [66]])
  (.seq (.seq (.r [.mv 3 (.t 0),
    .len 4 (.t 3),
    .bin 5 .eql .num (.t 4) (.c (.d (.i .i64 0))),
    .kill [3, 4]])
  (.cond (.t 5)
    (.pre [.keep []] (.seq (.r [.mv 2 (.c (.nil .str)),
      .opn 2 2 false])
    (.ret)))
    (.pre [.kill [5]] (.skip))))
  (.seq (.r [.mv 6 (.t 0),
    .mv 7 (.t 0),
    .len 8 (.t 7),
    .bin 9 .sub .num (.t 8) (.c (.d (.i .i64 1))),
    .slc 10 1 (.t 6) none (some (.t 9)),
    .kill [0, 6, 7, 8, 9],
    .call 11 false [] (.c (.clo icopyPath [])) [(.t 10)],
    .mv 2 (.t 11),
    .ren 12064 66,
    .keep [2],
    .drop [12064]])
  (.ret)))⟩
def iMayChange_3_m : Fn := ⟨2, [.t 2], false,
  .seq (.r [.mv 2 (.c (.d (.b false))),
    .kill [2]])
  (.seq (.post (.r [.ld 3 1 false (.t 0),
    .fa 4 (.t 1) 1,
    .ld 5 1 false (.t 4),
    .call 6 true [] (.t 3) [(.t 5), (.c (.d (.b true)))],
    .mv 7 (.t 6),
    .gd 7 true (some 8) (.ld 8 1 false (.t 0)),
    .gd 7 true (some 9) (.fa 9 (.t 1) 1),
    .gd 7 true (some 10) (.ld 10 1 false (.t 9)),
    .gd 7 true (some 11) (.call 11 true [] (.c (.clo iAbove [])) [(.t 10)]),
    .gd 7 true (some 12) (.call 12 true [] (.t 8) [(.t 11), (.c (.d (.b false)))]),
    .pick 13 (.t 7) (.t 12) (.c (.d (.b false))),
    .mv 2 (.t 13)]) [.keep [2]])
  (.ret))⟩
/-- live: [0, 1, 5]; objects: [] -/
def weqStringS_l0 : C :=
  .seq (.seq (.r [.mv 11 (.t 5),
      .mv 12 (.t 0),
      .len 13 (.t 12),
      .bin 14 .lss .num (.t 11) (.t 13),
      .kill [11, 12, 13]])
    (.cond (.t 14)
      (.pre [.kill [14]] (.skip))
      (.pre [.keep []] (.ex 0))))
    (.seq (.blk 1 (.seq (.post (.r [.mv 17 (.t 0),
      .mv 18 (.t 5),
      .ia 19 1 (.t 17) (.t 18),
      .ld 20 1 false (.t 19),
      .mv 21 (.t 1),
      .mv 22 (.t 5),
      .ia 23 1 (.t 21) (.t 22),
      .ld 24 1 false (.t 23),
      .bin 25 .neq .num (.t 20) (.t 24)]) [.keep [25, 5, 1, 0]])
    (.cond (.t 25)
      (.pre [.keep []] (.seq (.r [.mv 4 (.c (.d (.b false)))])
      (.ret)))
      (.pre [.kill [25]] (.skip)))))
    (.r [.mv 15 (.t 5),
      .bin 16 .add .num (.t 15) (.c (.d (.i .i64 1))),
      .mv 5 (.t 16),
      .kill [15, 16]]))
def weqStringS_m : Fn := ⟨2, [.t 4], false,
  .seq (.r [.mv 4 (.c (.d (.b false))),
    .kill [4]])
  (.seq (.seq (.r [.mv 6 (.t 0),
    .len 7 (.t 6),
    .mv 8 (.t 1),
    .len 9 (.t 8),
    .bin 10 .neq .num (.t 7) (.t 9),
    .keep [10, 1, 0]])
  (.cond (.t 10)
    (.pre [.keep []] (.seq (.r [.mv 4 (.c (.d (.b false)))])
    (.ret)))
    (.pre [.kill [10]] (.skip))))
  (.seq (.seq (.r [.mv 5 (.c (.d (.i .i64 0)))])
  (.blk 0 (.pre [.keep [5, 1, 0]] (.loop weqStringS_l0))))
  (.seq (.r [.mv 4 (.c (.d (.b true)))])
  (.ret))))⟩
def wszRes_m : Fn := ⟨2, [.t 4], false,
  .seq (.r [.bx 2 TRes true (.t 0),
    .mv 4 (.c (.d (.i .i64 0))),
    .kill [0, 4]])
  (.seq (.r [.fa 5 (.t 2) 0,
    .ld 6 1 false (.t 5),
    .mv 7 (.t 1),
    .call 8 true [] (.c (.clo wszStringS [])) [(.t 6), (.t 7)],
    .mv 1 (.t 8),
    .keep [2, 1]])
  (.seq (.seq (.r [.mv 9 (.t 1),
    .bin 10 .lss .num (.t 9) (.c (.d (.i .i64 0))),
    .kill [9]])
  (.cond (.t 10)
    (.pre [.keep [], .drop [66]] (.seq (.r [.mv 4 (.c (.d (.i .i64 (-1))))])
    (.ret)))
    (.pre [.kill [10]] (.skip))))
  (.seq (.r [.mv 11 (.t 1),
    .fa 12 (.t 2) 2,
    .ld 13 1 false (.t 12),
    .lns 14 (.t 13),
    .bin 15 .sub .num (.t 11) (.t 14),
    .kill [1, 11, 12, 13, 14],
    .mv 1 (.t 15),
    .keep [2, 1]])
  (.seq (.seq (.r [.mv 16 (.t 1),
    .bin 17 .lss .num (.t 16) (.c (.d (.i .i64 0))),
    .kill [16]])
  (.cond (.t 17)
    (.pre [.keep [], .drop [66]] (.seq (.r [.mv 4 (.c (.d (.i .i64 (-1))))])
    (.ret)))
    (.pre [.kill [17]] (.skip))))
  (.seq (.r [.fa 18 (.t 2) 4,
    .ld 19 1 false (.t 18),
    .mv 20 (.t 1),
    .call 21 true [] (.c (.clo wszPropS [])) [(.t 19), (.t 20)],
    .kill [1, 2, 18, 19, 20],
    .mv 1 (.t 21),
    .keep [1],
    .drop [66]])
  (.seq (.seq (.r [.mv 22 (.t 1),
    .bin 23 .lss .num (.t 22) (.c (.d (.i .i64 0))),
    .kill [22]])
  (.cond (.t 23)
    (.pre [.keep []] (.seq (.r [.mv 4 (.c (.d (.i .i64 (-1))))])
    (.ret)))
    (.pre [.kill [23]] (.skip))))
  (.seq (.r [.mv 24 (.t 1),
    .mv 4 (.t 24),
    .keep [4]])
  (.ret))))))))⟩
def wszLock_m : Fn := ⟨2, [.t 4], false,
  .seq (.r [.bx 2 TLock true (.t 0),
    .mv 4 (.c (.d (.i .i64 0))),
    .kill [0, 4]])
  (.seq (.r [.fa 5 (.t 2) 1,
    .ld 6 1 false (.t 5),
    .mv 7 (.t 1),
    .call 8 true [] (.c (.clo wszStringS [])) [(.t 6), (.t 7)],
    .kill [1, 2, 5, 6, 7],
    .mv 1 (.t 8),
    .keep [1],
    .drop [66]])
  (.seq (.seq (.r [.mv 9 (.t 1),
    .bin 10 .lss .num (.t 9) (.c (.d (.i .i64 0))),
    .kill [9]])
  (.cond (.t 10)
    (.pre [.keep []] (.seq (.r [.mv 4 (.c (.d (.i .i64 (-1))))])
    (.ret)))
    (.pre [.kill [10]] (.skip))))
  (.seq (.r [.mv 11 (.t 1),
    .mv 4 (.t 11),
    .keep [4]])
  (.ret))))⟩
def wtoRes_m : Fn := ⟨1, [.cell 2 5 true], false,
  .seq (.r [.bx 1 TRes true (.t 0),
    .al 2 TRes false,
    .kill [0]])
  (.seq (.r [.al 3 TRes false])
  (.seq (.r [.fa 4 (.t 1) 0,
    .ld 5 1 false (.t 4),
    .call 6 false [] (.c (.clo wtoStringS [])) [(.t 5)],
    .fa 7 (.t 3) 0,
    .st 1 (.t 7) (.t 6),
    .keep [3, 2, 1],
    .drop [7064]])
  (.seq (.r [.fa 8 (.t 1) 1,
    .ld 9 1 false (.t 8),
    .fa 10 (.t 3) 1,
    .st 1 (.t 10) (.t 9),
    .kill [8, 9, 10]])
  (.seq (.r [.fa 11 (.t 1) 2,
    .ld 12 1 false (.t 11),
    .fa 13 (.t 3) 2,
    .st 1 (.t 13) (.t 12),
    .kill [11, 12, 13]])
  (.seq (.r [.fa 14 (.t 1) 3,
    .ld 15 1 false (.t 14),
    .fa 16 (.t 3) 3,
    .st 1 (.t 16) (.t 15),
    .kill [14, 15, 16]])
  (.seq (.r [.fa 17 (.t 1) 4,
    .ld 18 1 false (.t 17),
    .call 19 false [] (.c (.clo wtoPropS [])) [(.t 18)],
    .fa 20 (.t 3) 4,
    .st 1 (.t 20) (.t 19),
    .keep [3, 2],
    .drop [65, 20064]])
  (.seq (.r [.ldt 21 5 true (.t 3),
    .st 5 (.t 2) (.t 21),
    .keep [2],
    .drop [67, 22064, 22068]])
  (.ret))))))))⟩
def wtoLock_m : Fn := ⟨1, [.cell 2 5 true], false,
  .seq (.r [.bx 1 TLock true (.t 0),
    .al 2 TLock false,
    .kill [0]])
  (.seq (.r [.al 3 TLock false])
  (.seq (.r [.fa 4 (.t 1) 0,
    .ld 5 1 false (.t 4),
    .fa 6 (.t 3) 0,
    .st 1 (.t 6) (.t 5),
    .kill [4, 5, 6]])
  (.seq (.r [.fa 7 (.t 1) 1,
    .ld 8 1 false (.t 7),
    .call 9 false [] (.c (.clo wtoStringS [])) [(.t 8)],
    .fa 10 (.t 3) 1,
    .st 1 (.t 10) (.t 9),
    .keep [3, 2, 1],
    .drop [10064]])
  (.seq (.r [.fa 11 (.t 1) 2,
    .ld 12 1 false (.t 11),
    .fa 13 (.t 3) 2,
    .st 1 (.t 13) (.t 12),
    .kill [11, 12, 13]])
  (.seq (.r [.fa 14 (.t 1) 3,
    .ld 15 1 false (.t 14),
    .fa 16 (.t 3) 3,
    .st 1 (.t 16) (.t 15),
    .kill [14, 15, 16]])
  (.seq (.r [.fa 17 (.t 1) 4,
    .ld 18 1 false (.t 17),
    .fa 19 (.t 3) 4,
    .st 1 (.t 19) (.t 18),
    .keep [3, 2],
    .drop [65]])
  (.seq (.r [.ldt 20 5 true (.t 3),
    .st 5 (.t 2) (.t 20),
    .keep [2],
    .drop [67, 21065]])
  (.ret))))))))⟩
def weqRes_m : Fn := ⟨2, [.t 4], false,
  .seq (.r [.bx 2 TRes true (.t 0),
    .bx 3 TRes true (.t 1),
    .mv 4 (.c (.d (.b false))),
    .keep [3, 2]])
  (.seq (.seq (.r [.fa 5 (.t 2) 0,
    .ld 6 1 false (.t 5),
    .fa 7 (.t 3) 0,
    .ld 8 1 false (.t 7),
    .call 9 true [] (.c (.clo weqStringS [])) [(.t 6), (.t 8)],
    .not 10 (.t 9),
    .keep [10, 3, 2]])
  (.cond (.t 10)
    (.pre [.keep [], .drop [66, 67]] (.seq (.r [.mv 4 (.c (.d (.b false)))])
    (.ret)))
    (.pre [.kill [10]] (.skip))))
  (.seq (.seq (.r [.fa 11 (.t 2) 1,
    .ld 12 1 false (.t 11),
    .fa 13 (.t 3) 1,
    .ld 14 1 false (.t 13),
    .bin 15 .neq .flag (.t 12) (.t 14),
    .keep [15, 3, 2]])
  (.cond (.t 15)
    (.pre [.keep [], .drop [66, 67]] (.seq (.r [.mv 4 (.c (.d (.b false)))])
    (.ret)))
    (.pre [.kill [15]] (.skip))))
  (.seq (.seq (.r [.fa 16 (.t 2) 2,
    .ld 17 1 false (.t 16),
    .fa 18 (.t 3) 2,
    .ld 19 1 false (.t 18),
    .bin 20 .neq .num (.t 17) (.t 19),
    .keep [20, 3, 2]])
  (.cond (.t 20)
    (.pre [.keep [], .drop [66, 67]] (.seq (.r [.mv 4 (.c (.d (.b false)))])
    (.ret)))
    (.pre [.kill [20]] (.skip))))
  (.seq (.seq (.r [.fa 21 (.t 2) 3,
    .ld 22 1 false (.t 21),
    .fa 23 (.t 3) 3,
    .ld 24 1 false (.t 23),
    .bin 25 .neq .num (.t 22) (.t 24),
    .keep [25, 3, 2]])
  (.cond (.t 25)
    (.pre [.keep [], .drop [66, 67]] (.seq (.r [.mv 4 (.c (.d (.b false)))])
    (.ret)))
    (.pre [.kill [25]] (.skip))))
  (.seq (.seq (.r [.fa 26 (.t 2) 4,
    .ld 27 1 false (.t 26),
    .fa 28 (.t 3) 4,
    .ld 29 1 false (.t 28),
    .call 30 true [] (.c (.clo weqPropS [])) [(.t 27), (.t 29)],
    .kill [2, 3, 26, 27, 28, 29],
    .not 31 (.t 30),
    .keep [31],
    .drop [66, 67]])
  (.cond (.t 31)
    (.pre [.keep []] (.seq (.r [.mv 4 (.c (.d (.b false)))])
    (.ret)))
    (.pre [.keep []] (.skip))))
  (.seq (.r [.mv 4 (.c (.d (.b true)))])
  (.ret)))))))⟩
def weqLock_m : Fn := ⟨2, [.t 4], false,
  .seq (.r [.bx 2 TLock true (.t 0),
    .bx 3 TLock true (.t 1),
    .mv 4 (.c (.d (.b false))),
    .keep [3, 2]])
  (.seq (.seq (.r [.fa 5 (.t 2) 0,
    .ld 6 1 false (.t 5),
    .fa 7 (.t 3) 0,
    .ld 8 1 false (.t 7),
    .bin 9 .neq .num (.t 6) (.t 8),
    .keep [9, 3, 2]])
  (.cond (.t 9)
    (.pre [.keep [], .drop [66, 67]] (.seq (.r [.mv 4 (.c (.d (.b false)))])
    (.ret)))
    (.pre [.kill [9]] (.skip))))
  (.seq (.seq (.r [.fa 10 (.t 2) 1,
    .ld 11 1 false (.t 10),
    .fa 12 (.t 3) 1,
    .ld 13 1 false (.t 12),
    .call 14 true [] (.c (.clo weqStringS [])) [(.t 11), (.t 13)],
    .not 15 (.t 14),
    .keep [15, 3, 2]])
  (.cond (.t 15)
    (.pre [.keep [], .drop [66, 67]] (.seq (.r [.mv 4 (.c (.d (.b false)))])
    (.ret)))
    (.pre [.kill [15]] (.skip))))
  (.seq (.seq (.r [.fa 16 (.t 2) 2,
    .ld 17 1 false (.t 16),
    .fa 18 (.t 3) 2,
    .ld 19 1 false (.t 18),
    .bin 20 .neq .flag (.t 17) (.t 19),
    .keep [20, 3, 2]])
  (.cond (.t 20)
    (.pre [.keep [], .drop [66, 67]] (.seq (.r [.mv 4 (.c (.d (.b false)))])
    (.ret)))
    (.pre [.kill [20]] (.skip))))
  (.seq (.seq (.r [.fa 21 (.t 2) 3,
    .ld 22 1 false (.t 21),
    .fa 23 (.t 3) 3,
    .ld 24 1 false (.t 23),
    .bin 25 .neq .flag (.t 22) (.t 24),
    .keep [25, 3, 2]])
  (.cond (.t 25)
    (.pre [.keep [], .drop [66, 67]] (.seq (.r [.mv 4 (.c (.d (.b false)))])
    (.ret)))
    (.pre [.kill [25]] (.skip))))
  (.seq (.seq (.r [.fa 26 (.t 2) 4,
    .ld 27 1 false (.t 26),
    .fa 28 (.t 3) 4,
    .ld 29 1 false (.t 28),
    .bin 30 .neq .num (.t 27) (.t 29),
    .keep [30],
    .drop [66, 67]])
  (.cond (.t 30)
    (.pre [.keep []] (.seq (.r [.mv 4 (.c (.d (.b false)))])
    (.ret)))
    (.pre [.keep []] (.skip))))
  (.seq (.r [.mv 4 (.c (.d (.b true)))])
  (.ret)))))))⟩
def sTagText_m : Fn := ⟨1, [.t 2], false,
  .seq (.r [.mv 2 (.c (.d (.s []))),
    .kill [2]])
  (.seq (.r [.mv 3 (.t 0),
    .call 4 true [] (.c (.clo sNumText [])) [(.t 3)],
    .bin 5 .add .num (.c (.d (.s [34, 118]))) (.t 4),
    .bin 6 .add .num (.t 5) (.c (.d (.s [34]))),
    .mv 2 (.t 6),
    .keep [2]])
  (.ret))⟩
/-- live: [0, 1, 5]; objects: [] -/
def sFindRes_l0 : C :=
  .seq (.seq (.r [.mv 6 (.t 5),
      .mv 7 (.t 0),
      .len 8 (.t 7),
      .bin 9 .lss .num (.t 6) (.t 8),
      .kill [6, 7, 8]])
    (.cond (.t 9)
      (.pre [.kill [9]] (.skip))
      (.pre [.keep []] (.ex 0))))
    (.seq (.blk 1 (.seq (.r [.mv 12 (.t 0),
      .mv 13 (.t 5),
      .ia 14 5 (.t 12) (.t 13),
      .fa 15 (.t 14) 0,
      .ld 16 1 false (.t 15),
      .mv 17 (.t 1),
      .call 18 true [] (.c (.clo sSamePath [])) [(.t 16), (.t 17)],
      .keep [18, 5, 1, 0]])
    (.cond (.t 18)
      (.pre [.keep [5]] (.seq (.r [.mv 19 (.t 5),
        .mv 4 (.t 19),
        .keep [4]])
      (.ret)))
      (.pre [.kill [18]] (.skip)))))
    (.r [.mv 10 (.t 5),
      .bin 11 .add .num (.t 10) (.c (.d (.i .i64 1))),
      .mv 5 (.t 11),
      .kill [10, 11]]))
def sFindRes_m : Fn := ⟨2, [.t 4], false,
  .seq (.r [.mv 4 (.c (.d (.i .i64 0))),
    .kill [4]])
  (.seq (.seq (.r [.mv 5 (.c (.d (.i .i64 0)))])
  (.blk 0 (.pre [.keep [5, 1, 0]] (.loop sFindRes_l0))))
  (.seq (.r [.mv 4 (.c (.d (.i .i64 (-1))))])
  (.ret)))⟩
def sUnder_m : Fn := ⟨2, [.t 4], false,
  .seq (.r [.mv 4 (.c (.d (.b false))),
    .kill [4]])
  (.seq (.r [.mv 5 (.t 0),
    .len 6 (.t 5),
    .mv 7 (.t 1),
    .len 8 (.t 7),
    .bin 9 .gtr .num (.t 6) (.t 8),
    .mv 10 (.t 9),
    .kill [5, 6, 7, 8, 9],
    .gd 10 true (some 11) (.mv 11 (.t 0)),
    .gd 10 true (some 12) (.mv 12 (.t 1)),
    .gd 10 true (some 13) (.len 13 (.t 12)),
    .gd 10 true (some 14) (.slc 14 1 (.t 11) none (some (.t 13))),
    .gd 10 true (some 15) (.mv 15 (.t 1)),
    .kill [0, 1, 11, 12, 13],
    .gd 10 true (some 16) (.call 16 true [] (.c (.clo sSamePath [])) [(.t 14), (.t 15)]),
    .pick 17 (.t 10) (.t 16) (.c (.d (.b false))),
    .mv 4 (.t 17),
    .keep [4]])
  (.ret))⟩
def sCovers_m : Fn := ⟨2, [.t 4], false,
  .seq (.r [.bx 2 TLock true (.t 0),
    .mv 4 (.c (.d (.b false))),
    .kill [0, 4]])
  (.seq (.r [.fa 5 (.t 2) 1,
    .ld 6 1 false (.t 5),
    .mv 7 (.t 1),
    .call 8 true [] (.c (.clo sSamePath [])) [(.t 6), (.t 7)],
    .mv 9 (.t 8),
    .gd 9 false (some 10) (.fa 10 (.t 2) 2),
    .gd 9 false (some 11) (.ld 11 1 false (.t 10)),
    .kill [5, 6, 7, 8, 10],
    .gd 9 false (some 12) (.mv 12 (.t 11)),
    .gd 12 true (some 13) (.mv 13 (.t 1)),
    .gd 12 true (some 14) (.fa 14 (.t 2) 1),
    .gd 12 true (some 15) (.ld 15 1 false (.t 14)),
    .gd 12 true (some 16) (.call 16 true [] (.c (.clo sUnder [])) [(.t 13), (.t 15)]),
    .kill [1, 2, 11, 13, 14, 15],
    .gd 9 false (some 17) (.pick 17 (.t 12) (.t 16) (.c (.d (.b false)))),
    .pick 18 (.t 9) (.c (.d (.b true))) (.t 17),
    .mv 4 (.t 18),
    .keep [4],
    .drop [66]])
  (.ret))⟩
/-- live: [0, 1, 5]; objects: [] -/
def sl13Has_l0 : C :=
  .seq (.seq (.r [.mv 6 (.t 5),
      .mv 7 (.t 0),
      .len 8 (.t 7),
      .bin 9 .lss .num (.t 6) (.t 8),
      .kill [6, 7, 8]])
    (.cond (.t 9)
      (.pre [.kill [9]] (.skip))
      (.pre [.keep []] (.ex 0))))
    (.seq (.blk 1 (.seq (.r [.mv 12 (.t 0),
      .mv 13 (.t 5),
      .ia 14 1 (.t 12) (.t 13),
      .ld 15 1 false (.t 14),
      .mv 16 (.t 1),
      .bin 17 .eql .num (.t 15) (.t 16),
      .keep [17, 5, 1, 0]])
    (.cond (.t 17)
      (.pre [.keep []] (.seq (.r [.mv 4 (.c (.d (.b true)))])
      (.ret)))
      (.pre [.kill [17]] (.skip)))))
    (.r [.mv 10 (.t 5),
      .bin 11 .add .num (.t 10) (.c (.d (.i .i64 1))),
      .mv 5 (.t 11),
      .kill [10, 11]]))
def sl13Has_m : Fn := ⟨2, [.t 4], false,
  .seq (.r [.mv 4 (.c (.d (.b false))),
    .kill [4]])
  (.seq (.seq (.r [.mv 5 (.c (.d (.i .i64 0)))])
  (.blk 0 (.pre [.keep [5, 1, 0]] (.loop sl13Has_l0))))
  (.seq (.r [.mv 4 (.c (.d (.b false)))])
  (.ret)))⟩
def sAbove_m : Fn := ⟨1, [.t 2], false,
  .seq (.r [.mv 2 (.c (.nil .str)),
    .opn 2 2 false,
    .kill [2],
    .drop [66]])
  (.seq (.seq (.r [.mv 3 (.t 0),
    .len 4 (.t 3),
    .bin 5 .eql .num (.t 4) (.c (.d (.i .i64 0))),
    .kill [3, 4]])
  (.cond (.t 5)
    (.pre [.keep []] (.seq (.r [.bs 6 .str false 0 [.d (.s [])] [],
      .mv 2 (.t 6),
      .ren 70 66,
      .kill [6],
      .drop [70]])
    (.ret)))
    (.pre [.kill [5]] (.skip))))
  (.seq (.r [.bs 7 .str false 0 [.d (.s [])] [],
    .mv 8 (.t 0),
    .mv 9 (.t 0),
    .len 10 (.t 9),
    .bin 11 .sub .num (.t 10) (.c (.d (.i .i64 1))),
    .slc 12 1 (.t 8) none (some (.t 11)),
    .kill [0, 8, 9, 10, 11],
    .app 13 .str false 16 (.t 7) (.t 12),
    .mv 2 (.t 13),
    .ren 77 66,
    .keep [2],
    .drop [71, 77]])
  (.ret)))⟩
def iTagText_m : Fn := ⟨1, [.t 2], false,
  .seq (.r [.mv 2 (.c (.d (.s []))),
    .kill [2]])
  (.seq (.r [.mv 3 (.t 0),
    .call 4 true [] (.c (.clo iNumText [])) [(.t 3)],
    .bin 5 .add .num (.c (.d (.s [34, 118]))) (.t 4),
    .bin 6 .add .num (.t 5) (.c (.d (.s [34]))),
    .mv 2 (.t 6),
    .keep [2]])
  (.ret))⟩
/-- live: [1, 7, 8, 9]; objects: [] -/
def iFindRes_l0 : C :=
  .seq (.r [.bin 10 .lss .num (.t 9) (.t 8)])
    (.seq (.cond (.t 10)
      (.pre [.kill [10]] (.skip))
      (.pre [.keep []] (.ex 0)))
    (.seq (.blk 1 (.seq (.r [.mv 11 (.t 9),
      .ia 12 5 (.t 7) (.t 9),
      .ld 13 5 true (.t 12),
      .al 6 TRes true,
      .mv 5 (.t 11),
      .st 5 (.t 6) (.t 13),
      .kill [11, 12, 13]])
    (.seq (.r [.fa 14 (.t 6) 0,
      .ld 15 1 false (.t 14),
      .mv 16 (.t 1),
      .call 17 true [] (.c (.clo iSamePath [])) [(.t 15), (.t 16)],
      .kill [6, 14, 15, 16],
      .drop [70]])
    (.cond (.t 17)
      (.pre [.keep [5]] (.seq (.r [.mv 18 (.t 5),
        .mv 4 (.t 18),
        .keep [4]])
      (.ret)))
      (.pre [.kill [5, 17]] (.skip))))))
    (.r [.bin 19 .add .num (.t 9) (.c (.d (.i .i64 1))),
      .mv 9 (.t 19),
      .kill [19]])))
def iFindRes_m : Fn := ⟨2, [.t 4], false,
  .seq (.r [.mv 4 (.c (.d (.i .i64 0))),
    .kill [4]])
  (.seq (.seq (.r [.mv 7 (.t 0),
    .len 8 (.t 7),
    .mv 9 (.c (.d (.i .i64 0))),
    .kill [0]])
  (.blk 0 (.pre [.keep [9, 8, 7, 1]] (.loop iFindRes_l0))))
  (.seq (.r [.mv 4 (.c (.d (.i .i64 (-1))))])
  (.ret)))⟩
/-- live: [1, 2, 3, 9, 10, 14, 15, 16]; objects: [] -/
def iMayTurn_l0 : C :=
  .seq (.r [.bin 17 .lss .num (.t 16) (.t 15)])
    (.seq (.cond (.t 17)
      (.pre [.kill [17]] (.skip))
      (.pre [.keep [10, 9]] (.ex 0)))
    (.seq (.blk 1 (.seq (.r [.ia 18 5 (.t 14) (.t 16),
      .ld 19 5 true (.t 18),
      .al 12 TLock true,
      .st 5 (.t 12) (.t 19),
      .kill [18, 19]])
    (.seq (.seq (.r [.ld 20 5 true (.t 12),
      .mv 21 (.t 1),
      .call 22 true [] (.c (.clo iCovers [])) [(.t 20), (.t 21)],
      .not 23 (.t 22),
      .mv 24 (.t 23),
      .gd 24 true (some 25) (.mv 25 (.t 2)),
      .gd 24 true (some 26) (.mv 26 (.t 25)),
      .kill [20, 21, 22, 23, 25],
      .gd 26 true (some 27) (.fa 27 (.t 12) 1),
      .gd 26 true (some 28) (.ld 28 1 false (.t 27)),
      .gd 26 true (some 29) (.mv 29 (.t 1)),
      .gd 26 true (some 30) (.call 30 true [] (.c (.clo iUnder [])) [(.t 28), (.t 29)]),
      .gd 24 true (some 31) (.pick 31 (.t 26) (.t 30) (.c (.d (.b false)))),
      .kill [26, 27, 28, 29, 30],
      .gd 24 true (some 32) (.not 32 (.t 31)),
      .pick 33 (.t 24) (.t 32) (.c (.d (.b false))),
      .keep [33, 16, 15, 14, 12, 10, 9, 3, 2, 1]])
    (.cond (.t 33)
      (.pre [.kill [12, 33], .drop [76]] (.ex 1))
      (.pre [.kill [33]] (.skip))))
    (.seq (.r [.mv 34 (.t 3),
      .fa 35 (.t 12) 0,
      .ld 36 1 false (.t 35),
      .call 37 true [] (.c (.clo ihasInt [])) [(.t 34), (.t 36)],
      .mv 13 (.t 37),
      .kill [34, 35, 36, 37]])
    (.seq (.seq (.r [.fa 38 (.t 12) 3,
      .ld 39 1 false (.t 38),
      .not 40 (.t 39),
      .mv 41 (.t 40),
      .gd 41 true (some 42) (.mv 42 (.t 13)),
      .gd 41 true (some 43) (.not 43 (.t 42)),
      .pick 44 (.t 41) (.t 43) (.c (.d (.b false))),
      .kill [38, 39, 40, 41, 42, 43]])
    (.cond (.t 44)
      (.pre [.keep [], .drop [76]] (.seq (.r [.mv 8 (.c (.d (.b false)))])
      (.ret)))
      (.pre [.kill [44]] (.skip))))
    (.seq (.r [.mv 45 (.t 9),
      .mv 46 (.t 45),
      .gd 46 false (some 47) (.fa 47 (.t 12) 3),
      .gd 46 false (some 48) (.ld 48 1 false (.t 47)),
      .pick 49 (.t 46) (.c (.d (.b true))) (.t 48),
      .kill [9, 45, 46, 47, 48],
      .mv 9 (.t 49),
      .kill [45, 46, 47, 48, 49]])
    (.r [.mv 50 (.t 10),
      .mv 51 (.t 50),
      .gd 51 false (some 52) (.fa 52 (.t 12) 3),
      .gd 51 false (some 53) (.ld 53 1 false (.t 52)),
      .gd 51 false (some 54) (.mv 54 (.t 53)),
      .kill [10, 12, 50, 52, 53],
      .gd 54 true (some 55) (.mv 55 (.t 13)),
      .gd 51 false (some 56) (.pick 56 (.t 54) (.t 55) (.c (.d (.b false)))),
      .pick 57 (.t 51) (.c (.d (.b true))) (.t 56),
      .kill [13, 51, 54, 55, 56],
      .mv 10 (.t 57),
      .keep [16, 15, 14, 10, 9, 3, 2, 1],
      .drop [76]])))))))
    (.r [.bin 58 .add .num (.t 16) (.c (.d (.i .i64 1))),
      .mv 16 (.t 58),
      .kill [58]])))
def iMayTurn_m : Fn := ⟨4, [.t 8], false,
  .seq (.r [.mv 8 (.c (.d (.b false))),
    .kill [8]])
  (.seq (.r [.mv 9 (.c (.d (.b false))),
    .mv 10 (.c (.d (.b false)))])
  (.seq (.seq (.r [.mv 14 (.t 0),
    .len 15 (.t 14),
    .mv 16 (.c (.d (.i .i64 0))),
    .kill [0]])
  (.blk 0 (.pre [.keep [16, 15, 14, 10, 9, 3, 2, 1]] (.loop iMayTurn_l0))))
  (.seq (.r [.mv 59 (.t 9),
    .not 60 (.t 59),
    .mv 61 (.t 60),
    .gd 61 false (some 62) (.mv 62 (.t 10)),
    .pick 63 (.t 61) (.c (.d (.b true))) (.t 62),
    .kill [9, 10, 59, 60, 61, 62],
    .mv 8 (.t 63),
    .keep [8]])
  (.ret))))⟩
def icopyPath_m : Fn := ⟨1, [.t 2], false,
  .seq (.r [.mv 2 (.c (.nil .str)),
    .opn 2 2 false,
    .kill [2],
    .drop [66]])
  (.seq (.r [.mv 3 (.t 0),
    .app 4 .str false 16 (.c (.nil .str)) (.t 3),
    .mv 2 (.t 4),
    .ren 68 66,
    .keep [2],
    .drop [68]])
  (.ret))⟩
/-- live: [0, 1, 5]; objects: [] -/
def wszPropS_l0 : C :=
  .seq (.seq (.r [.mv 12 (.t 5),
      .mv 13 (.t 0),
      .len 14 (.t 13),
      .bin 15 .lss .num (.t 12) (.t 14),
      .kill [12, 13, 14]])
    (.cond (.t 15)
      (.pre [.kill [15]] (.skip))
      (.pre [.keep [1]] (.ex 0))))
    (.seq (.blk 1 (.seq (.r [.mv 18 (.t 0),
      .mv 19 (.t 5),
      .ia 20 3 (.t 18) (.t 19),
      .ld 21 3 true (.t 20),
      .mv 22 (.t 1),
      .call 23 true [] (.c (.clo wszProp [])) [(.t 21), (.t 22)],
      .kill [1, 18, 19, 20, 21, 22],
      .mv 1 (.t 23),
      .keep [5, 1, 0]])
    (.seq (.r [.mv 24 (.t 1),
      .bin 25 .lss .num (.t 24) (.c (.d (.i .i64 0))),
      .kill [24]])
    (.cond (.t 25)
      (.pre [.keep []] (.seq (.r [.mv 4 (.c (.d (.i .i64 (-1))))])
      (.ret)))
      (.pre [.kill [25]] (.skip))))))
    (.r [.mv 16 (.t 5),
      .bin 17 .add .num (.t 16) (.c (.d (.i .i64 1))),
      .mv 5 (.t 17),
      .kill [16, 17]]))
def wszPropS_m : Fn := ⟨2, [.t 4], false,
  .seq (.r [.mv 4 (.c (.d (.i .i64 0))),
    .kill [4]])
  (.seq (.r [.mv 6 (.t 1),
    .mv 7 (.t 0),
    .len 8 (.t 7),
    .bin 9 .sub .num (.t 6) (.t 8),
    .mv 1 (.t 9),
    .keep [1, 0]])
  (.seq (.seq (.r [.mv 10 (.t 1),
    .bin 11 .lss .num (.t 10) (.c (.d (.i .i64 0))),
    .kill [10]])
  (.cond (.t 11)
    (.pre [.keep []] (.seq (.r [.mv 4 (.c (.d (.i .i64 (-1))))])
    (.ret)))
    (.pre [.kill [11]] (.skip))))
  (.seq (.seq (.r [.mv 5 (.c (.d (.i .i64 0)))])
  (.blk 0 (.pre [.keep [5, 1, 0]] (.loop wszPropS_l0))))
  (.seq (.r [.mv 26 (.t 1),
    .mv 4 (.t 26),
    .keep [4]])
  (.ret)))))⟩
/-- live: [0, 3, 4]; objects: [71] -/
def wtoPropS_l0 : C :=
  .seq (.seq (.r [.mv 8 (.t 4),
      .mv 9 (.t 0),
      .len 10 (.t 9),
      .bin 11 .lss .num (.t 8) (.t 10),
      .kill [8, 9, 10]])
    (.cond (.t 11)
      (.pre [.kill [11]] (.skip))
      (.pre [.keep [3]] (.ex 0))))
    (.seq (.blk 1 (.r [.mv 14 (.t 3),
      .mv 15 (.t 4),
      .mv 16 (.t 0),
      .mv 17 (.t 4),
      .ia 18 3 (.t 16) (.t 17),
      .ld 19 3 true (.t 18),
      .call 20 true [] (.c (.clo wtoProp [])) [(.t 19)],
      .ia 21 3 (.t 14) (.t 15),
      .kill [14, 15, 16, 17, 18, 19],
      .st 3 (.t 21) (.t 20),
      .keep [4, 3, 0]]))
    (.r [.mv 12 (.t 4),
      .bin 13 .add .num (.t 12) (.c (.d (.i .i64 1))),
      .mv 4 (.t 13),
      .kill [12, 13]]))
def wtoPropS_m : Fn := ⟨1, [.t 2], false,
  .seq (.r [.mv 2 (.c (.nil TProp)),
    .opn 2 2 false,
    .kill [2],
    .drop [66]])
  (.seq (.r [.mv 5 (.t 0),
    .len 6 (.t 5),
    .mk 7 TProp 48 (.t 6),
    .mv 3 (.t 7),
    .keep [3, 0]])
  (.seq (.seq (.r [.mv 4 (.c (.d (.i .i64 0)))])
  (.blk 0 (.pre [.keep [4, 3, 0]] (.loop wtoPropS_l0))))
  (.seq (.r [.mv 22 (.t 3),
    .mv 2 (.t 22),
    .ren 71 66,
    .keep [2],
    .drop [71]])
  (.ret))))⟩
/-- live: [0, 1, 5]; objects: [] -/
def weqPropS_l0 : C :=
  .seq (.seq (.r [.mv 11 (.t 5),
      .mv 12 (.t 0),
      .len 13 (.t 12),
      .bin 14 .lss .num (.t 11) (.t 13),
      .kill [11, 12, 13]])
    (.cond (.t 14)
      (.pre [.kill [14]] (.skip))
      (.pre [.keep []] (.ex 0))))
    (.seq (.blk 1 (.seq (.post (.r [.mv 17 (.t 0),
      .mv 18 (.t 5),
      .ia 19 3 (.t 17) (.t 18),
      .ld 20 3 true (.t 19),
      .mv 21 (.t 1),
      .mv 22 (.t 5),
      .ia 23 3 (.t 21) (.t 22),
      .ld 24 3 true (.t 23),
      .call 25 true [] (.c (.clo weqProp [])) [(.t 20), (.t 24)],
      .not 26 (.t 25)]) [.keep [26, 5, 1, 0]])
    (.cond (.t 26)
      (.pre [.keep []] (.seq (.r [.mv 4 (.c (.d (.b false)))])
      (.ret)))
      (.pre [.kill [26]] (.skip)))))
    (.r [.mv 15 (.t 5),
      .bin 16 .add .num (.t 15) (.c (.d (.i .i64 1))),
      .mv 5 (.t 16),
      .kill [15, 16]]))
def weqPropS_m : Fn := ⟨2, [.t 4], false,
  .seq (.r [.mv 4 (.c (.d (.b false))),
    .kill [4]])
  (.seq (.seq (.r [.mv 6 (.t 0),
    .len 7 (.t 6),
    .mv 8 (.t 1),
    .len 9 (.t 8),
    .bin 10 .neq .num (.t 7) (.t 9),
    .keep [10, 1, 0]])
  (.cond (.t 10)
    (.pre [.keep []] (.seq (.r [.mv 4 (.c (.d (.b false)))])
    (.ret)))
    (.pre [.kill [10]] (.skip))))
  (.seq (.seq (.r [.mv 5 (.c (.d (.i .i64 0)))])
  (.blk 0 (.pre [.keep [5, 1, 0]] (.loop weqPropS_l0))))
  (.seq (.r [.mv 4 (.c (.d (.b true)))])
  (.ret))))⟩
/-- live: [0, 3]; objects: [] -/
def sNumText_l0 : C :=
  .seq (.seq (.r [.mv 12 (.t 0),
      .bin 13 .gtr .num (.t 12) (.c (.d (.i .i64 9))),
      .kill [12]])
    (.cond (.t 13)
      (.pre [.kill [13]] (.skip))
      (.pre [.keep [3]] (.ex 0))))
    (.blk 1 (.seq (.r [.mv 14 (.t 0),
      .bin 15 .quo .num (.t 14) (.c (.d (.i .i64 10))),
      .mv 0 (.t 15),
      .kill [14, 15]])
    (.r [.mv 16 (.t 0),
      .bin 17 .rem .num (.t 16) (.c (.d (.i .i64 10))),
      .bin 18 .add .num (.c (.d (.i .i64 48))) (.t 17),
      .cvi 19 .u8 (.t 18),
      .bs 20 .u8 false 1 [.d (.u 0)] [(0, (.t 19))],
      .b2s 21 (.t 20),
      .kill [16, 17, 18, 19, 20],
      .mv 22 (.t 3),
      .bin 23 .add .num (.t 21) (.t 22),
      .mv 3 (.t 23),
      .keep [3, 0],
      .drop [84]])))
def sNumText_m : Fn := ⟨1, [.t 2], false,
  .seq (.r [.mv 2 (.c (.d (.s []))),
    .kill [2]])
  (.seq (.seq (.r [.mv 4 (.t 0),
    .bin 5 .lss .num (.t 4) (.c (.d (.i .i64 0))),
    .kill [4]])
  (.cond (.t 5)
    (.pre [.keep []] (.r [.mv 0 (.c (.d (.i .i64 0)))]))
    (.pre [.kill [5]] (.skip))))
  (.seq (.r [.mv 6 (.t 0),
    .bin 7 .rem .num (.t 6) (.c (.d (.i .i64 10))),
    .bin 8 .add .num (.c (.d (.i .i64 48))) (.t 7),
    .cvi 9 .u8 (.t 8),
    .bs 10 .u8 false 1 [.d (.u 0)] [(0, (.t 9))],
    .b2s 11 (.t 10),
    .kill [6, 7, 8, 9, 10],
    .mv 3 (.t 11),
    .keep [3, 0],
    .drop [74]])
  (.seq (.blk 0 (.pre [.keep [3, 0]] (.loop sNumText_l0)))
  (.seq (.r [.mv 24 (.t 3),
    .mv 2 (.t 24),
    .keep [2]])
  (.ret)))))⟩
/-- live: [0, 1, 5]; objects: [] -/
def sSamePath_l0 : C :=
  .seq (.seq (.r [.mv 11 (.t 5),
      .mv 12 (.t 0),
      .len 13 (.t 12),
      .bin 14 .lss .num (.t 11) (.t 13),
      .kill [11, 12, 13]])
    (.cond (.t 14)
      (.pre [.kill [14]] (.skip))
      (.pre [.keep []] (.ex 0))))
    (.seq (.blk 1 (.seq (.post (.r [.mv 17 (.t 0),
      .mv 18 (.t 5),
      .ia 19 1 (.t 17) (.t 18),
      .ld 20 1 false (.t 19),
      .mv 21 (.t 1),
      .mv 22 (.t 5),
      .ia 23 1 (.t 21) (.t 22),
      .ld 24 1 false (.t 23),
      .bin 25 .neq .num (.t 20) (.t 24)]) [.keep [25, 5, 1, 0]])
    (.cond (.t 25)
      (.pre [.keep []] (.seq (.r [.mv 4 (.c (.d (.b false)))])
      (.ret)))
      (.pre [.kill [25]] (.skip)))))
    (.r [.mv 15 (.t 5),
      .bin 16 .add .num (.t 15) (.c (.d (.i .i64 1))),
      .mv 5 (.t 16),
      .kill [15, 16]]))
def sSamePath_m : Fn := ⟨2, [.t 4], false,
  .seq (.r [.mv 4 (.c (.d (.b false))),
    .kill [4]])
  (.seq (.seq (.r [.mv 6 (.t 0),
    .len 7 (.t 6),
    .mv 8 (.t 1),
    .len 9 (.t 8),
    .bin 10 .neq .num (.t 7) (.t 9),
    .keep [10, 1, 0]])
  (.cond (.t 10)
    (.pre [.keep []] (.seq (.r [.mv 4 (.c (.d (.b false)))])
    (.ret)))
    (.pre [.kill [10]] (.skip))))
  (.seq (.seq (.r [.mv 5 (.c (.d (.i .i64 0)))])
  (.blk 0 (.pre [.keep [5, 1, 0]] (.loop sSamePath_l0))))
  (.seq (.r [.mv 4 (.c (.d (.b true)))])
  (.ret))))⟩
def iNumText_m : Fn := ⟨1, [.t 2], false,
  .seq (.r [.mv 2 (.c (.d (.s []))),
    .kill [2]])
  (.seq (.r [.mv 3 (.t 0),
    .mm 4 true (.t 3) (.c (.d (.i .i64 0))),
    .call 5 true [] (.c (.clo x_strconv_Itoa [])) [(.t 4)],
    .mv 2 (.t 5),
    .keep [2]])
  (.ret))⟩
/-- live: [0, 1, 12, 13]; objects: [] -/
def iSamePath_l0 : C :=
  .seq (.r [.bin 14 .lss .num (.t 13) (.t 12)])
    (.seq (.cond (.t 14)
      (.pre [.kill [14]] (.skip))
      (.pre [.keep []] (.ex 0)))
    (.seq (.blk 1 (.seq (.r [.mv 15 (.t 13),
      .mv 5 (.t 15),
      .kill [15]])
    (.seq (.post (.r [.mv 16 (.t 0),
      .mv 17 (.t 5),
      .ia 18 1 (.t 16) (.t 17),
      .ld 19 1 false (.t 18),
      .mv 20 (.t 1),
      .mv 21 (.t 5),
      .ia 22 1 (.t 20) (.t 21),
      .ld 23 1 false (.t 22),
      .bin 24 .neq .num (.t 19) (.t 23)]) [.keep [24, 13, 12, 1, 0]])
    (.cond (.t 24)
      (.pre [.keep []] (.seq (.r [.mv 4 (.c (.d (.b false)))])
      (.ret)))
      (.pre [.kill [24]] (.skip))))))
    (.r [.bin 25 .add .num (.t 13) (.c (.d (.i .i64 1))),
      .mv 13 (.t 25),
      .kill [25]])))
def iSamePath_m : Fn := ⟨2, [.t 4], false,
  .seq (.r [.mv 4 (.c (.d (.b false))),
    .kill [4]])
  (.seq (.seq (.r [.mv 6 (.t 0),
    .len 7 (.t 6),
    .mv 8 (.t 1),
    .len 9 (.t 8),
    .bin 10 .neq .num (.t 7) (.t 9),
    .keep [10, 1, 0]])
  (.cond (.t 10)
    (.pre [.keep []] (.seq (.r [.mv 4 (.c (.d (.b false)))])
    (.ret)))
    (.pre [.kill [10]] (.skip))))
  (.seq (.seq (.r [.mv 11 (.t 0),
    .len 12 (.t 11),
    .mv 13 (.c (.d (.i .i64 0))),
    .kill [11]])
  (.blk 0 (.pre [.keep [13, 12, 1, 0]] (.loop iSamePath_l0))))
  (.seq (.r [.mv 4 (.c (.d (.b true)))])
  (.ret))))⟩
def iUnder_m : Fn := ⟨2, [.t 4], false,
  .seq (.r [.mv 4 (.c (.d (.b false))),
    .kill [4]])
  (.seq (.r [.mv 5 (.t 0),
    .len 6 (.t 5),
    .mv 7 (.t 1),
    .len 8 (.t 7),
    .bin 9 .gtr .num (.t 6) (.t 8),
    .mv 10 (.t 9),
    .kill [5, 6, 7, 8, 9],
    .gd 10 true (some 11) (.mv 11 (.t 0)),
    .gd 10 true (some 12) (.mv 12 (.t 1)),
    .gd 10 true (some 13) (.len 13 (.t 12)),
    .gd 10 true (some 14) (.slc 14 1 (.t 11) none (some (.t 13))),
    .gd 10 true (some 15) (.mv 15 (.t 1)),
    .kill [0, 1, 11, 12, 13],
    .gd 10 true (some 16) (.call 16 true [] (.c (.clo iSamePath [])) [(.t 14), (.t 15)]),
    .pick 17 (.t 10) (.t 16) (.c (.d (.b false))),
    .mv 4 (.t 17),
    .keep [4]])
  (.ret))⟩
def iCovers_m : Fn := ⟨2, [.t 4], false,
  .seq (.r [.bx 2 TLock true (.t 0),
    .mv 4 (.c (.d (.b false))),
    .kill [0, 4]])
  (.seq (.r [.fa 5 (.t 2) 1,
    .ld 6 1 false (.t 5),
    .mv 7 (.t 1),
    .call 8 true [] (.c (.clo iSamePath [])) [(.t 6), (.t 7)],
    .mv 9 (.t 8),
    .gd 9 false (some 10) (.fa 10 (.t 2) 2),
    .gd 9 false (some 11) (.ld 11 1 false (.t 10)),
    .kill [5, 6, 7, 8, 10],
    .gd 9 false (some 12) (.mv 12 (.t 11)),
    .gd 12 true (some 13) (.mv 13 (.t 1)),
    .gd 12 true (some 14) (.fa 14 (.t 2) 1),
    .gd 12 true (some 15) (.ld 15 1 false (.t 14)),
    .gd 12 true (some 16) (.call 16 true [] (.c (.clo iUnder [])) [(.t 13), (.t 15)]),
    .kill [1, 2, 11, 13, 14, 15],
    .gd 9 false (some 17) (.pick 17 (.t 12) (.t 16) (.c (.d (.b false)))),
    .pick 18 (.t 9) (.c (.d (.b true))) (.t 17),
    .mv 4 (.t 18),
    .keep [4],
    .drop [66]])
  (.ret))⟩
/-- live: [1, 7, 8, 9]; objects: [] -/
def ihasInt_l0 : C :=
  .seq (.r [.bin 10 .lss .num (.t 9) (.t 8)])
    (.seq (.cond (.t 10)
      (.pre [.kill [10]] (.skip))
      (.pre [.keep []] (.ex 0)))
    (.seq (.blk 1 (.seq (.r [.ia 11 1 (.t 7) (.t 9),
      .ld 12 1 false (.t 11),
      .mv 6 (.t 12),
      .kill [11, 12]])
    (.seq (.r [.mv 13 (.t 6),
      .mv 14 (.t 1),
      .bin 15 .eql .num (.t 13) (.t 14),
      .kill [6, 13, 14]])
    (.cond (.t 15)
      (.pre [.keep []] (.seq (.r [.mv 4 (.c (.d (.b true)))])
      (.ret)))
      (.pre [.kill [15]] (.skip))))))
    (.r [.bin 16 .add .num (.t 9) (.c (.d (.i .i64 1))),
      .mv 9 (.t 16),
      .kill [16]])))
def ihasInt_m : Fn := ⟨2, [.t 4], false,
  .seq (.r [.mv 4 (.c (.d (.b false))),
    .kill [4]])
  (.seq (.seq (.r [.mv 7 (.t 0),
    .len 8 (.t 7),
    .mv 9 (.c (.d (.i .i64 0))),
    .kill [0]])
  (.blk 0 (.pre [.keep [9, 8, 7, 1]] (.loop ihasInt_l0))))
  (.seq (.r [.mv 4 (.c (.d (.b false)))])
  (.ret)))⟩
def wszProp_m : Fn := ⟨2, [.t 4], false,
  .seq (.r [.bx 2 TProp false (.t 0),
    .mv 4 (.c (.d (.i .i64 0))),
    .kill [0, 4]])
  (.seq (.r [.mv 5 (.t 1),
    .fa 6 (.t 2) 0,
    .ld 7 1 false (.t 6),
    .lns 8 (.t 7),
    .bin 9 .sub .num (.t 5) (.t 8),
    .kill [1, 5, 6, 7, 8],
    .mv 1 (.t 9),
    .keep [2, 1]])
  (.seq (.seq (.r [.mv 10 (.t 1),
    .bin 11 .lss .num (.t 10) (.c (.d (.i .i64 0))),
    .kill [10]])
  (.cond (.t 11)
    (.pre [.keep [], .drop [66]] (.seq (.r [.mv 4 (.c (.d (.i .i64 (-1))))])
    (.ret)))
    (.pre [.kill [11]] (.skip))))
  (.seq (.r [.mv 12 (.t 1),
    .fa 13 (.t 2) 1,
    .ld 14 1 false (.t 13),
    .lns 15 (.t 14),
    .bin 16 .sub .num (.t 12) (.t 15),
    .kill [1, 12, 13, 14, 15],
    .mv 1 (.t 16),
    .keep [2, 1]])
  (.seq (.seq (.r [.mv 17 (.t 1),
    .bin 18 .lss .num (.t 17) (.c (.d (.i .i64 0))),
    .kill [17]])
  (.cond (.t 18)
    (.pre [.keep [], .drop [66]] (.seq (.r [.mv 4 (.c (.d (.i .i64 (-1))))])
    (.ret)))
    (.pre [.kill [18]] (.skip))))
  (.seq (.r [.mv 19 (.t 1),
    .fa 20 (.t 2) 2,
    .ld 21 1 false (.t 20),
    .lns 22 (.t 21),
    .bin 23 .sub .num (.t 19) (.t 22),
    .kill [1, 2, 19, 20, 21, 22],
    .mv 1 (.t 23),
    .keep [1],
    .drop [66]])
  (.seq (.seq (.r [.mv 24 (.t 1),
    .bin 25 .lss .num (.t 24) (.c (.d (.i .i64 0))),
    .kill [24]])
  (.cond (.t 25)
    (.pre [.keep []] (.seq (.r [.mv 4 (.c (.d (.i .i64 (-1))))])
    (.ret)))
    (.pre [.kill [25]] (.skip))))
  (.seq (.r [.mv 26 (.t 1),
    .mv 4 (.t 26),
    .keep [4]])
  (.ret))))))))⟩
def wtoProp_m : Fn := ⟨1, [.cell 2 3 true], false,
  .seq (.r [.bx 1 TProp false (.t 0),
    .al 2 TProp false,
    .kill [0]])
  (.seq (.r [.al 3 TProp false])
  (.seq (.r [.fa 4 (.t 1) 0,
    .ld 5 1 false (.t 4),
    .fa 6 (.t 3) 0,
    .st 1 (.t 6) (.t 5),
    .kill [4, 5, 6]])
  (.seq (.r [.fa 7 (.t 1) 1,
    .ld 8 1 false (.t 7),
    .fa 9 (.t 3) 1,
    .st 1 (.t 9) (.t 8),
    .kill [7, 8, 9]])
  (.seq (.r [.fa 10 (.t 1) 2,
    .ld 11 1 false (.t 10),
    .fa 12 (.t 3) 2,
    .st 1 (.t 12) (.t 11),
    .keep [3, 2],
    .drop [65]])
  (.seq (.r [.ld 13 3 true (.t 3),
    .st 3 (.t 2) (.t 13),
    .keep [2],
    .drop [67]])
  (.ret))))))⟩
def weqProp_m : Fn := ⟨2, [.t 4], false,
  .seq (.r [.bx 2 TProp false (.t 0),
    .bx 3 TProp false (.t 1),
    .mv 4 (.c (.d (.b false))),
    .keep [3, 2]])
  (.seq (.seq (.r [.fa 5 (.t 2) 0,
    .ld 6 1 false (.t 5),
    .fa 7 (.t 3) 0,
    .ld 8 1 false (.t 7),
    .bin 9 .neq .num (.t 6) (.t 8),
    .keep [9, 3, 2]])
  (.cond (.t 9)
    (.pre [.keep [], .drop [66, 67]] (.seq (.r [.mv 4 (.c (.d (.b false)))])
    (.ret)))
    (.pre [.kill [9]] (.skip))))
  (.seq (.seq (.r [.fa 10 (.t 2) 1,
    .ld 11 1 false (.t 10),
    .fa 12 (.t 3) 1,
    .ld 13 1 false (.t 12),
    .bin 14 .neq .num (.t 11) (.t 13),
    .keep [14, 3, 2]])
  (.cond (.t 14)
    (.pre [.keep [], .drop [66, 67]] (.seq (.r [.mv 4 (.c (.d (.b false)))])
    (.ret)))
    (.pre [.kill [14]] (.skip))))
  (.seq (.seq (.r [.fa 15 (.t 2) 2,
    .ld 16 1 false (.t 15),
    .fa 17 (.t 3) 2,
    .ld 18 1 false (.t 17),
    .bin 19 .neq .num (.t 16) (.t 18),
    .keep [19],
    .drop [66, 67]])
  (.cond (.t 19)
    (.pre [.keep []] (.seq (.r [.mv 4 (.c (.d (.b false)))])
    (.ret)))
    (.pre [.keep []] (.skip))))
  (.seq (.r [.mv 4 (.c (.d (.b true)))])
  (.ret)))))⟩
def tabL : List (Nat × Fn) := [(wFnExactMayChange, wFnExactMayChange_m), (wszSrv, wszSrv_m), (wtoSrv, wtoSrv_m), (weqSrv, weqSrv_m), (wszAsk, wszAsk_m), (sMayChange, sMayChange_m), (wtoAsk, wtoAsk_m), (iMayChange, iMayChange_m), (weqAsk, weqAsk_m), (wszResS, wszResS_m), (wszLockS, wszLockS_m), (wszIntS, wszIntS_m), (wtoResS, wtoResS_m), (wtoLockS, wtoLockS_m), (wtoIntS, wtoIntS_m), (weqResS, weqResS_m), (weqLockS, weqLockS_m), (weqIntS, weqIntS_m), (wszStringS, wszStringS_m), (sTagAt, sTagAt_m), (sMayTurn, sMayTurn_m), (sl16Both, sl16Both_m), (wtoStringS, wtoStringS_m), (iTagAt, iTagAt_m), (iMayChange_1, iMayChange_1_m), (iMayChange_2, iMayChange_2_m), (iAbove, iAbove_m), (iMayChange_3, iMayChange_3_m), (weqStringS, weqStringS_m), (wszRes, wszRes_m), (wszLock, wszLock_m), (wtoRes, wtoRes_m), (wtoLock, wtoLock_m), (weqRes, weqRes_m), (weqLock, weqLock_m), (sTagText, sTagText_m), (sFindRes, sFindRes_m), (sUnder, sUnder_m), (sCovers, sCovers_m), (sl13Has, sl13Has_m), (sAbove, sAbove_m), (iTagText, iTagText_m), (iFindRes, iFindRes_m), (iMayTurn, iMayTurn_m), (icopyPath, icopyPath_m), (wszPropS, wszPropS_m), (wtoPropS, wtoPropS_m), (weqPropS, weqPropS_m), (sNumText, sNumText_m), (sSamePath, sSamePath_m), (iNumText, iNumText_m), (iSamePath, iSamePath_m), (iUnder, iUnder_m), (iCovers, iCovers_m), (ihasInt, ihasInt_m), (wszProp, wszProp_m), (wtoProp, wtoProp_m), (weqProp, weqProp_m)]
end Go.Proofs.YtcjdocdinmbjhaaDoorK
