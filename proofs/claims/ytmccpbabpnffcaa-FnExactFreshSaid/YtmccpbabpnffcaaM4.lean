import Derived.Test.YtmccpbabpnffcaaK24
import Derived.Test.YtmccpbabpnffcaaProg
import Derived.KernelRfl
set_option linter.unusedVariables false
set_option linter.unusedSimpArgs false
namespace Go.Proofs.YtmccpbabpnffcaaK
open Go.RowKit
/- loop.example/g00452/laws.FnExactFresh -/
def m4 : Fn := ⟨2, [.t 4], false,
  .seq (.post (.r [.bx 2 (.t 0),
    .bx 3 (.t 1),
    .mv 4 (.c (.d (.b false)))]) [.keep [3, 2]])
  (.seq (.r [.mv 5 (.c (.d (.i .i64 1048576)))])
  (.seq (.post (.r [.ld 10 6 true (.t 2),
    .mv 11 (.t 5),
    .call 12 false (.c (.clo 13 [])) [(.t 10), (.t 11)],
    .mv 5 (.t 12)]) [.kill [10, 11, 12]])
  (.seq (.seq (.post (.r [.mv 13 (.t 5),
    .bin 14 .lss .num (.t 13) (.c (.d (.i .i64 0)))]) [.kill [13]])
  (.cond (.t 14)
    (.pre [.keep []] (.seq (.r [.mv 4 (.c (.d (.b true)))])
    (.ret)))
    (.pre [.kill [14]] (.skip))))
  (.seq (.post (.r [.ld 15 6 true (.t 3),
    .mv 16 (.t 5),
    .call 17 false (.c (.clo 13 [])) [(.t 15), (.t 16)],
    .mv 5 (.t 17)]) [.kill [15, 16, 17]])
  (.seq (.seq (.post (.r [.mv 18 (.t 5),
    .bin 19 .lss .num (.t 18) (.c (.d (.i .i64 0)))]) [.kill [5, 18]])
  (.cond (.t 19)
    (.pre [.keep []] (.seq (.r [.mv 4 (.c (.d (.b true)))])
    (.ret)))
    (.pre [.kill [19]] (.skip))))
  (.seq (.post (.r [.ld 20 6 true (.t 2),
    .call 21 false (.c (.clo 15 [])) [(.t 20)],
    .ld 22 6 true (.t 3),
    .call 23 false (.c (.clo 15 [])) [(.t 22)],
    .call 24 false (.c (.clo 14 [])) [(.t 21), (.t 23)],
    .mv 6 (.t 24)]) [.keep [6, 3, 2]])
  (.seq (.post (.r [.ld 25 6 true (.t 2),
    .call 26 false (.c (.clo 15 [])) [(.t 25)],
    .al 7 [.nil, .nil, .d (.i .i64 0), .d (.i .i64 0), .nil, .nil],
    .st 6 (.t 7) (.t 26)]) [.kill [25, 26]])
  (.seq (.post (.r [.ld 27 6 true (.t 3),
    .call 28 false (.c (.clo 15 [])) [(.t 27)],
    .al 8 [.nil, .nil, .d (.i .i64 0), .d (.i .i64 0), .nil, .nil],
    .st 6 (.t 8) (.t 28)]) [.kill [27, 28]])
  (.seq (.post (.r [.ld 29 6 true (.t 7),
    .ld 30 6 true (.t 8),
    .call 31 false (.c (.clo 16 [])) [(.t 29), (.t 30)],
    .mv 9 (.t 31)]) [.kill [29, 30, 31]])
  (.seq (.seq (.post (.r [.mv 32 (.t 9),
    .mv 33 (.t 6),
    .bin 34 .neq .flag (.t 32) (.t 33)]) [.kill [6, 9, 32, 33]])
  (.cond (.t 34)
    (.pre [.keep []] (.seq (.r [.mv 4 (.c (.d (.b false)))])
    (.ret)))
    (.pre [.kill [34]] (.skip))))
  (.seq (.seq (.post (.r [.ld 35 6 true (.t 7),
    .ld 36 6 true (.t 2),
    .call 37 false (.c (.clo 15 [])) [(.t 36)],
    .call 38 false (.c (.clo 17 [])) [(.t 35), (.t 37)],
    .not 39 (.t 38)]) [.keep [39, 8, 3]])
  (.cond (.t 39)
    (.pre [.keep []] (.seq (.r [.mv 4 (.c (.d (.b false)))])
    (.ret)))
    (.pre [.kill [39]] (.skip))))
  (.seq (.seq (.post (.r [.ld 40 6 true (.t 8),
    .ld 41 6 true (.t 3),
    .call 42 false (.c (.clo 15 [])) [(.t 41)],
    .call 43 false (.c (.clo 17 [])) [(.t 40), (.t 42)],
    .not 44 (.t 43)]) [.keep [44]])
  (.cond (.t 44)
    (.pre [.keep []] (.seq (.r [.mv 4 (.c (.d (.b false)))])
    (.ret)))
    (.pre [.keep []] (.skip))))
  (.seq (.r [.mv 4 (.c (.d (.b true)))])
  (.ret))))))))))))))⟩
/- loop.example/g00452/laws.szSrv -/
def m13 : Fn := ⟨2, [.t 4], false,
  .seq (.post (.r [.bx 2 (.t 0),
    .mv 4 (.c (.d (.i .i64 0)))]) [.kill [0, 4]])
  (.seq (.post (.r [.fa 5 (.t 2) 0,
    .ld 6 1 false (.t 5),
    .mv 7 (.t 1),
    .call 8 false (.c (.clo 55 [])) [(.t 6), (.t 7)],
    .mv 1 (.t 8)]) [.keep [2, 1]])
  (.seq (.seq (.post (.r [.mv 9 (.t 1),
    .bin 10 .lss .num (.t 9) (.c (.d (.i .i64 0)))]) [.kill [9]])
  (.cond (.t 10)
    (.pre [.keep []] (.seq (.r [.mv 4 (.c (.d (.i .i64 (-1))))])
    (.ret)))
    (.pre [.kill [10]] (.skip))))
  (.seq (.post (.r [.fa 11 (.t 2) 1,
    .ld 12 1 false (.t 11),
    .mv 13 (.t 1),
    .call 14 false (.c (.clo 56 [])) [(.t 12), (.t 13)],
    .mv 1 (.t 14)]) [.keep [2, 1]])
  (.seq (.seq (.post (.r [.mv 15 (.t 1),
    .bin 16 .lss .num (.t 15) (.c (.d (.i .i64 0)))]) [.kill [15]])
  (.cond (.t 16)
    (.pre [.keep []] (.seq (.r [.mv 4 (.c (.d (.i .i64 (-1))))])
    (.ret)))
    (.pre [.kill [16]] (.skip))))
  (.seq (.post (.r [.fa 17 (.t 2) 4,
    .ld 18 1 false (.t 17),
    .mv 19 (.t 1),
    .call 20 false (.c (.clo 57 [])) [(.t 18), (.t 19)],
    .mv 1 (.t 20)]) [.keep [2, 1]])
  (.seq (.seq (.post (.r [.mv 21 (.t 1),
    .bin 22 .lss .num (.t 21) (.c (.d (.i .i64 0)))]) [.kill [21]])
  (.cond (.t 22)
    (.pre [.keep []] (.seq (.r [.mv 4 (.c (.d (.i .i64 (-1))))])
    (.ret)))
    (.pre [.kill [22]] (.skip))))
  (.seq (.post (.r [.fa 23 (.t 2) 5,
    .ld 24 1 false (.t 23),
    .mv 25 (.t 1),
    .call 26 false (.c (.clo 57 [])) [(.t 24), (.t 25)],
    .mv 1 (.t 26)]) [.keep [1]])
  (.seq (.seq (.post (.r [.mv 27 (.t 1),
    .bin 28 .lss .num (.t 27) (.c (.d (.i .i64 0)))]) [.kill [27]])
  (.cond (.t 28)
    (.pre [.keep []] (.seq (.r [.mv 4 (.c (.d (.i .i64 (-1))))])
    (.ret)))
    (.pre [.kill [28]] (.skip))))
  (.seq (.post (.r [.mv 29 (.t 1),
    .mv 4 (.t 29)]) [.keep [4]])
  (.ret))))))))))⟩
/- loop.example/g00452/spec.Fresh -/
/-- live: [2, 3, 5]; objects: [2, 3] -/
def m14l0 : C := .post
  (.seq (.seq (.post (.r [.mv 7 (.t 5),
      .fa 8 (.t 2) 0,
      .ld 9 1 false (.t 8),
      .len 10 (.t 9),
      .bin 11 .lss .num (.t 7) (.t 10)]) [.kill [7, 8, 9, 10]])
    (.cond (.t 11)
      (.pre [.kill [11]] (.skip))
      (.pre [.kill [5, 11]] (.ex 0))))
    (.seq (.blk 1 (.seq (.post (.r [.fa 14 (.t 3) 0,
      .ld 15 1 false (.t 14),
      .fa 16 (.t 2) 0,
      .ld 17 1 false (.t 16),
      .mv 18 (.t 5),
      .ia 19 5 (.t 17) (.t 18),
      .fa 20 (.t 19) 0,
      .ld 21 1 false (.t 20),
      .call 22 false (.c (.clo 58 [])) [(.t 15), (.t 21)],
      .mv 6 (.t 22)]) [.keep [6, 5, 3, 2]])
    (.seq (.post (.r [.mv 23 (.t 6),
      .bin 24 .geq .num (.t 23) (.c (.d (.i .i64 0))),
      .mv 25 (.t 24),
      .gd 25 true (some 26) (.fa 26 (.t 2) 0),
      .gd 25 true (some 27) (.ld 27 1 false (.t 26)),
      .gd 25 true (some 28) (.mv 28 (.t 5)),
      .gd 25 true (some 29) (.ia 29 5 (.t 27) (.t 28)),
      .gd 25 true (some 30) (.fa 30 (.t 29) 1),
      .gd 25 true (some 31) (.ld 31 1 false (.t 30)),
      .gd 25 true (some 32) (.not 32 (.t 31)),
      .pick 33 (.t 25) (.t 32) (.c (.d (.b false))),
      .mv 34 (.t 33),
      .gd 34 true (some 35) (.fa 35 (.t 3) 0),
      .gd 34 true (some 36) (.ld 36 1 false (.t 35)),
      .gd 34 true (some 37) (.mv 37 (.t 6)),
      .gd 34 true (some 38) (.ia 38 5 (.t 36) (.t 37)),
      .gd 34 true (some 39) (.fa 39 (.t 38) 1),
      .gd 34 true (some 40) (.ld 40 1 false (.t 39)),
      .gd 34 true (some 41) (.not 41 (.t 40)),
      .pick 42 (.t 34) (.t 41) (.c (.d (.b false))),
      .mv 43 (.t 42),
      .gd 43 true (some 44) (.fa 44 (.t 2) 0),
      .gd 43 true (some 45) (.ld 45 1 false (.t 44)),
      .gd 43 true (some 46) (.mv 46 (.t 5)),
      .gd 43 true (some 47) (.ia 47 5 (.t 45) (.t 46)),
      .gd 43 true (some 48) (.fa 48 (.t 47) 3),
      .gd 43 true (some 49) (.ld 49 1 false (.t 48)),
      .gd 43 true (some 50) (.fa 50 (.t 3) 0),
      .gd 43 true (some 51) (.ld 51 1 false (.t 50)),
      .gd 43 true (some 52) (.mv 52 (.t 6)),
      .gd 43 true (some 53) (.ia 53 5 (.t 51) (.t 52)),
      .gd 43 true (some 54) (.fa 54 (.t 53) 3),
      .gd 43 true (some 55) (.ld 55 1 false (.t 54)),
      .gd 43 true (some 56) (.bin 56 .eql .num (.t 49) (.t 55)),
      .pick 57 (.t 43) (.t 56) (.c (.d (.b false))),
      .mv 58 (.t 57),
      .gd 58 true (some 59) (.fa 59 (.t 2) 0),
      .gd 58 true (some 60) (.ld 60 1 false (.t 59)),
      .gd 58 true (some 61) (.mv 61 (.t 5)),
      .gd 58 true (some 62) (.ia 62 5 (.t 60) (.t 61)),
      .gd 58 true (some 63) (.fa 63 (.t 62) 2),
      .gd 58 true (some 64) (.ld 64 1 false (.t 63)),
      .gd 58 true (some 65) (.fa 65 (.t 3) 0),
      .gd 58 true (some 66) (.ld 66 1 false (.t 65)),
      .gd 58 true (some 67) (.mv 67 (.t 6)),
      .gd 58 true (some 68) (.ia 68 5 (.t 66) (.t 67)),
      .gd 58 true (some 69) (.fa 69 (.t 68) 2),
      .gd 58 true (some 70) (.ld 70 1 false (.t 69)),
      .gd 58 true (some 71) (.bin 71 .neq .num (.t 64) (.t 70)),
      .pick 72 (.t 58) (.t 71) (.c (.d (.b false)))]) [.keep [72, 5, 3, 2]])
    (.cond (.t 72)
      (.pre [.keep []] (.seq (.r [.mv 4 (.c (.d (.b false)))])
      (.ret)))
      (.pre [.kill [72]] (.skip))))))
    (.post (.r [.mv 12 (.t 5),
      .bin 13 .add .num (.t 12) (.c (.d (.i .i64 1))),
      .mv 5 (.t 13)]) [.kill [12, 13]])))
  [.keep [5, 3, 2]]
def m14 : Fn := ⟨2, [.t 4], false,
  .seq (.post (.r [.bx 2 (.t 0),
    .bx 3 (.t 1),
    .mv 4 (.c (.d (.b false)))]) [.keep [3, 2]])
  (.seq (.seq (.r [.mv 5 (.c (.d (.i .i64 0)))])
  (.blk 0 (.pre [.keep [5, 3, 2]] (.loop m14l0))))
  (.seq (.post (.r [.fa 73 (.t 3) 3,
    .ld 74 1 false (.t 73),
    .fa 75 (.t 2) 3,
    .ld 76 1 false (.t 75),
    .bin 77 .geq .num (.t 74) (.t 76),
    .mv 4 (.t 77)]) [.keep [4]])
  (.ret)))⟩
/- loop.example/g00452/laws.toSrv -/
def m15 : Fn := ⟨1, [.cell 2 6 true], false,
  .seq (.post (.r [.bx 1 (.t 0),
    .al 2 [.nil, .nil, .d (.i .i64 0), .d (.i .i64 0), .nil, .nil]]) [.kill [0]])
  (.seq (.r [.al 3 [.nil, .nil, .d (.i .i64 0), .d (.i .i64 0), .nil, .nil]])
  (.seq (.post (.r [.fa 4 (.t 1) 0,
    .ld 5 1 false (.t 4),
    .call 6 false (.c (.clo 59 [])) [(.t 5)],
    .fa 7 (.t 3) 0,
    .st 1 (.t 7) (.t 6)]) [.keep [3, 2, 1]])
  (.seq (.post (.r [.fa 8 (.t 1) 1,
    .ld 9 1 false (.t 8),
    .call 10 false (.c (.clo 60 [])) [(.t 9)],
    .fa 11 (.t 3) 1,
    .st 1 (.t 11) (.t 10)]) [.keep [3, 2, 1]])
  (.seq (.post (.r [.fa 12 (.t 1) 2,
    .ld 13 1 false (.t 12),
    .fa 14 (.t 3) 2,
    .st 1 (.t 14) (.t 13)]) [.kill [12, 13, 14]])
  (.seq (.post (.r [.fa 15 (.t 1) 3,
    .ld 16 1 false (.t 15),
    .fa 17 (.t 3) 3,
    .st 1 (.t 17) (.t 16)]) [.kill [15, 16, 17]])
  (.seq (.post (.r [.fa 18 (.t 1) 4,
    .ld 19 1 false (.t 18),
    .call 20 false (.c (.clo 61 [])) [(.t 19)],
    .fa 21 (.t 3) 4,
    .st 1 (.t 21) (.t 20)]) [.keep [3, 2, 1]])
  (.seq (.post (.r [.fa 22 (.t 1) 5,
    .ld 23 1 false (.t 22),
    .call 24 false (.c (.clo 61 [])) [(.t 23)],
    .fa 25 (.t 3) 5,
    .st 1 (.t 25) (.t 24)]) [.keep [3, 2]])
  (.seq (.post (.r [.ld 26 6 true (.t 3),
    .st 6 (.t 2) (.t 26)]) [.keep [2]])
  (.ret)))))))))⟩
/- loop.example/g00452/impl.Fresh -/
/-- live: [2, 3, 9, 10, 11]; objects: [2, 3] -/
def m16l0 : C := .post
  (.seq (.r [.bin 12 .lss .num (.t 11) (.t 10)])
    (.seq (.cond (.t 12)
      (.pre [.kill [12]] (.skip))
      (.pre [.keep [3, 2]] (.ex 0)))
    (.seq (.blk 1 (.seq (.post (.r [.ia 13 5 (.t 9) (.t 11),
      .ld 14 5 true (.t 13),
      .al 6 [.nil, .d (.b false), .d (.s []), .d (.i .i64 0), .nil],
      .st 5 (.t 6) (.t 14)]) [.kill [13, 14]])
    (.seq (.post (.r [.fa 15 (.t 3) 0,
      .ld 16 1 false (.t 15),
      .fa 17 (.t 6) 0,
      .ld 18 1 false (.t 17),
      .call 19 false (.c (.clo 62 [])) [(.t 16), (.t 18)],
      .mv 7 (.t 19)]) [.kill [15, 16, 17, 18, 19]])
    (.seq (.seq (.r [.mv 20 (.t 7),
      .bin 21 .lss .num (.t 20) (.c (.d (.i .i64 0))),
      .mv 22 (.t 21),
      .gd 22 false (some 23) (.fa 23 (.t 6) 1),
      .gd 22 false (some 24) (.ld 24 1 false (.t 23)),
      .pick 25 (.t 22) (.c (.d (.b true))) (.t 24),
      .kill [20, 21, 22, 23, 24],
      .mv 26 (.t 25),
      .gd 26 false (some 27) (.fa 27 (.t 3) 0),
      .gd 26 false (some 28) (.ld 28 1 false (.t 27)),
      .gd 26 false (some 29) (.mv 29 (.t 7)),
      .gd 26 false (some 30) (.ia 30 5 (.t 28) (.t 29)),
      .kill [25, 27, 28, 29],
      .gd 26 false (some 31) (.fa 31 (.t 30) 1),
      .gd 26 false (some 32) (.ld 32 1 false (.t 31)),
      .pick 33 (.t 26) (.c (.d (.b true))) (.t 32),
      .kill [26, 30, 31, 32]])
    (.cond (.t 33)
      (.pre [.kill [6, 7, 33]] (.ex 1))
      (.pre [.kill [33]] (.skip))))
    (.seq (.post (.r [.fa 34 (.t 3) 0,
      .ld 35 1 false (.t 34),
      .mv 36 (.t 7),
      .ia 37 5 (.t 35) (.t 36),
      .fa 38 (.t 37) 3,
      .ld 39 1 false (.t 38),
      .fa 40 (.t 6) 3,
      .ld 41 1 false (.t 40),
      .bin 42 .eql .num (.t 39) (.t 41),
      .mv 43 (.t 42),
      .gd 43 true (some 44) (.fa 44 (.t 3) 0),
      .gd 43 true (some 45) (.ld 45 1 false (.t 44)),
      .gd 43 true (some 46) (.mv 46 (.t 7)),
      .gd 43 true (some 47) (.ia 47 5 (.t 45) (.t 46)),
      .gd 43 true (some 48) (.fa 48 (.t 47) 2),
      .gd 43 true (some 49) (.ld 49 1 false (.t 48)),
      .gd 43 true (some 50) (.fa 50 (.t 6) 2),
      .gd 43 true (some 51) (.ld 51 1 false (.t 50)),
      .gd 43 true (some 52) (.bin 52 .neq .num (.t 49) (.t 51)),
      .pick 53 (.t 43) (.t 52) (.c (.d (.b false)))]) [.keep [53, 11, 10, 9, 3, 2]])
    (.cond (.t 53)
      (.pre [.keep []] (.seq (.r [.mv 4 (.c (.d (.b false)))])
      (.ret)))
      (.pre [.kill [53]] (.skip))))))))
    (.post (.r [.bin 54 .add .num (.t 11) (.c (.d (.i .i64 1))),
      .mv 11 (.t 54)]) [.kill [54]]))))
  [.keep [11, 10, 9, 3, 2], .drop [6]]
def m16 : Fn := ⟨2, [.t 4], false,
  .seq (.post (.r [.bx 2 (.t 0),
    .bx 3 (.t 1),
    .mv 4 (.c (.d (.b false)))]) [.keep [3, 2]])
  (.seq (.seq (.post (.r [.fa 8 (.t 2) 0,
    .ld 9 1 false (.t 8),
    .len 10 (.t 9),
    .mv 11 (.c (.d (.i .i64 0)))]) [.kill [8]])
  (.blk 0 (.pre [.keep [11, 10, 9, 3, 2]] (.loop m16l0))))
  (.seq (.post (.r [.fa 55 (.t 3) 3,
    .ld 56 1 false (.t 55),
    .fa 57 (.t 2) 3,
    .ld 58 1 false (.t 57),
    .bin 59 .geq .num (.t 56) (.t 58),
    .mv 4 (.t 59)]) [.keep [4]])
  (.ret)))⟩
/- loop.example/g00452/laws.eqSrv -/
def m17 : Fn := ⟨2, [.t 4], false,
  .seq (.post (.r [.bx 2 (.t 0),
    .bx 3 (.t 1),
    .mv 4 (.c (.d (.b false)))]) [.keep [3, 2]])
  (.seq (.seq (.post (.r [.fa 5 (.t 2) 0,
    .ld 6 1 false (.t 5),
    .fa 7 (.t 3) 0,
    .ld 8 1 false (.t 7),
    .call 9 false (.c (.clo 63 [])) [(.t 6), (.t 8)],
    .not 10 (.t 9)]) [.keep [10, 3, 2]])
  (.cond (.t 10)
    (.pre [.keep []] (.seq (.r [.mv 4 (.c (.d (.b false)))])
    (.ret)))
    (.pre [.kill [10]] (.skip))))
  (.seq (.seq (.post (.r [.fa 11 (.t 2) 1,
    .ld 12 1 false (.t 11),
    .fa 13 (.t 3) 1,
    .ld 14 1 false (.t 13),
    .call 15 false (.c (.clo 64 [])) [(.t 12), (.t 14)],
    .not 16 (.t 15)]) [.keep [16, 3, 2]])
  (.cond (.t 16)
    (.pre [.keep []] (.seq (.r [.mv 4 (.c (.d (.b false)))])
    (.ret)))
    (.pre [.kill [16]] (.skip))))
  (.seq (.seq (.post (.r [.fa 17 (.t 2) 2,
    .ld 18 1 false (.t 17),
    .fa 19 (.t 3) 2,
    .ld 20 1 false (.t 19),
    .bin 21 .neq .num (.t 18) (.t 20)]) [.keep [21, 3, 2]])
  (.cond (.t 21)
    (.pre [.keep []] (.seq (.r [.mv 4 (.c (.d (.b false)))])
    (.ret)))
    (.pre [.kill [21]] (.skip))))
  (.seq (.seq (.post (.r [.fa 22 (.t 2) 3,
    .ld 23 1 false (.t 22),
    .fa 24 (.t 3) 3,
    .ld 25 1 false (.t 24),
    .bin 26 .neq .num (.t 23) (.t 25)]) [.keep [26, 3, 2]])
  (.cond (.t 26)
    (.pre [.keep []] (.seq (.r [.mv 4 (.c (.d (.b false)))])
    (.ret)))
    (.pre [.kill [26]] (.skip))))
  (.seq (.seq (.post (.r [.fa 27 (.t 2) 4,
    .ld 28 1 false (.t 27),
    .fa 29 (.t 3) 4,
    .ld 30 1 false (.t 29),
    .call 31 false (.c (.clo 65 [])) [(.t 28), (.t 30)],
    .not 32 (.t 31)]) [.keep [32, 3, 2]])
  (.cond (.t 32)
    (.pre [.keep []] (.seq (.r [.mv 4 (.c (.d (.b false)))])
    (.ret)))
    (.pre [.kill [32]] (.skip))))
  (.seq (.seq (.post (.r [.fa 33 (.t 2) 5,
    .ld 34 1 false (.t 33),
    .fa 35 (.t 3) 5,
    .ld 36 1 false (.t 35),
    .call 37 false (.c (.clo 65 [])) [(.t 34), (.t 36)],
    .not 38 (.t 37)]) [.keep [38]])
  (.cond (.t 38)
    (.pre [.keep []] (.seq (.r [.mv 4 (.c (.d (.b false)))])
    (.ret)))
    (.pre [.keep []] (.skip))))
  (.seq (.r [.mv 4 (.c (.d (.b true)))])
  (.ret))))))))⟩
/- loop.example/g00452/laws.szStringS -/
/-- live: [0, 1, 5]; objects: [] -/
def m24l0 : C := .post
  (.seq (.seq (.post (.r [.mv 12 (.t 5),
      .mv 13 (.t 0),
      .len 14 (.t 13),
      .bin 15 .lss .num (.t 12) (.t 14)]) [.kill [12, 13, 14]])
    (.cond (.t 15)
      (.pre [.kill [15]] (.skip))
      (.pre [.keep [1]] (.ex 0))))
    (.seq (.blk 1 (.seq (.post (.r [.mv 18 (.t 1),
      .mv 19 (.t 0),
      .mv 20 (.t 5),
      .ia 21 1 (.t 19) (.t 20),
      .ld 22 1 false (.t 21),
      .lns 23 (.t 22),
      .bin 24 .sub .num (.t 18) (.t 23),
      .mv 1 (.t 24)]) [.keep [5, 1, 0]])
    (.seq (.post (.r [.mv 25 (.t 1),
      .bin 26 .lss .num (.t 25) (.c (.d (.i .i64 0)))]) [.kill [25]])
    (.cond (.t 26)
      (.pre [.keep []] (.seq (.r [.mv 4 (.c (.d (.i .i64 (-1))))])
      (.ret)))
      (.pre [.kill [26]] (.skip))))))
    (.post (.r [.mv 16 (.t 5),
      .bin 17 .add .num (.t 16) (.c (.d (.i .i64 1))),
      .mv 5 (.t 17)]) [.kill [16, 17]])))
  [.keep [5, 1, 0]]
def m24 : Fn := ⟨2, [.t 4], false,
  .seq (.post (.r [.mv 4 (.c (.d (.i .i64 0)))]) [.kill [4]])
  (.seq (.post (.r [.mv 6 (.t 1),
    .mv 7 (.t 0),
    .len 8 (.t 7),
    .bin 9 .sub .num (.t 6) (.t 8),
    .mv 1 (.t 9)]) [.keep [1, 0]])
  (.seq (.seq (.post (.r [.mv 10 (.t 1),
    .bin 11 .lss .num (.t 10) (.c (.d (.i .i64 0)))]) [.kill [10]])
  (.cond (.t 11)
    (.pre [.keep []] (.seq (.r [.mv 4 (.c (.d (.i .i64 (-1))))])
    (.ret)))
    (.pre [.kill [11]] (.skip))))
  (.seq (.seq (.r [.mv 5 (.c (.d (.i .i64 0)))])
  (.blk 0 (.pre [.keep [5, 1, 0]] (.loop m24l0))))
  (.seq (.post (.r [.mv 27 (.t 1),
    .mv 4 (.t 27)]) [.keep [4]])
  (.ret)))))⟩
/- loop.example/g00452/laws.toStringS -/
/-- live: [0, 3, 4]; objects: [7] -/
def m27l0 : C := .post
  (.seq (.seq (.post (.r [.mv 8 (.t 4),
      .mv 9 (.t 0),
      .len 10 (.t 9),
      .bin 11 .lss .num (.t 8) (.t 10)]) [.kill [8, 9, 10]])
    (.cond (.t 11)
      (.pre [.kill [11]] (.skip))
      (.pre [.keep [3]] (.ex 0))))
    (.seq (.blk 1 (.post (.r [.mv 14 (.t 3),
      .mv 15 (.t 4),
      .mv 16 (.t 0),
      .mv 17 (.t 4),
      .ia 18 1 (.t 16) (.t 17),
      .ld 19 1 false (.t 18),
      .ia 20 1 (.t 14) (.t 15),
      .st 1 (.t 20) (.t 19)]) [.keep [4, 3, 0]]))
    (.post (.r [.mv 12 (.t 4),
      .bin 13 .add .num (.t 12) (.c (.d (.i .i64 1))),
      .mv 4 (.t 13)]) [.kill [12, 13]])))
  [.keep [4, 3, 0]]
def m27 : Fn := ⟨1, [.t 2], false,
  .seq (.post (.r [.mv 2 (.c .nil)]) [.kill [2]])
  (.seq (.post (.r [.mv 5 (.t 0),
    .len 6 (.t 5),
    .mk 7 1 16 [.d (.s [])] (.t 6),
    .mv 3 (.t 7)]) [.keep [3, 0]])
  (.seq (.seq (.r [.mv 4 (.c (.d (.i .i64 0)))])
  (.blk 0 (.pre [.keep [4, 3, 0]] (.loop m27l0))))
  (.seq (.post (.r [.mv 21 (.t 3),
    .mv 2 (.t 21)]) [.keep [2]])
  (.ret))))⟩
/- loop.example/g00452/laws.eqStringS -/
/-- live: [0, 1, 5]; objects: [] -/
def m30l0 : C := .post
  (.seq (.seq (.post (.r [.mv 11 (.t 5),
      .mv 12 (.t 0),
      .len 13 (.t 12),
      .bin 14 .lss .num (.t 11) (.t 13)]) [.kill [11, 12, 13]])
    (.cond (.t 14)
      (.pre [.kill [14]] (.skip))
      (.pre [.keep []] (.ex 0))))
    (.seq (.blk 1 (.seq (.post (.r [.mv 17 (.t 0),
      .mv 18 (.t 5),
      .ia 19 1 (.t 17) (.t 18),
      .ld 20 1 false (.t 19),
      .mv 21 (.t 1),
      .mv 22 (.t 5),
      .ia 23 1 (.t 21) (.t 22),
      .ld 24 1 false (.t 23),
      .bin 25 .neq .num (.t 20) (.t 24)]) [.keep [25, 5, 1, 0]])
    (.cond (.t 25)
      (.pre [.keep []] (.seq (.r [.mv 4 (.c (.d (.b false)))])
      (.ret)))
      (.pre [.kill [25]] (.skip)))))
    (.post (.r [.mv 15 (.t 5),
      .bin 16 .add .num (.t 15) (.c (.d (.i .i64 1))),
      .mv 5 (.t 16)]) [.kill [15, 16]])))
  [.keep [5, 1, 0]]
def m30 : Fn := ⟨2, [.t 4], false,
  .seq (.post (.r [.mv 4 (.c (.d (.b false)))]) [.kill [4]])
  (.seq (.seq (.post (.r [.mv 6 (.t 0),
    .len 7 (.t 6),
    .mv 8 (.t 1),
    .len 9 (.t 8),
    .bin 10 .neq .num (.t 7) (.t 9)]) [.keep [10, 1, 0]])
  (.cond (.t 10)
    (.pre [.keep []] (.seq (.r [.mv 4 (.c (.d (.b false)))])
    (.ret)))
    (.pre [.kill [10]] (.skip))))
  (.seq (.seq (.r [.mv 5 (.c (.d (.i .i64 0)))])
  (.blk 0 (.pre [.keep [5, 1, 0]] (.loop m30l0))))
  (.seq (.r [.mv 4 (.c (.d (.b true)))])
  (.ret))))⟩
/- loop.example/g00452/laws.szPropS -/
/-- live: [0, 1, 5]; objects: [] -/
def m36l0 : C := .post
  (.seq (.seq (.post (.r [.mv 12 (.t 5),
      .mv 13 (.t 0),
      .len 14 (.t 13),
      .bin 15 .lss .num (.t 12) (.t 14)]) [.kill [12, 13, 14]])
    (.cond (.t 15)
      (.pre [.kill [15]] (.skip))
      (.pre [.keep [1]] (.ex 0))))
    (.seq (.blk 1 (.seq (.post (.r [.mv 18 (.t 0),
      .mv 19 (.t 5),
      .ia 20 3 (.t 18) (.t 19),
      .ld 21 3 true (.t 20),
      .mv 22 (.t 1),
      .call 23 false (.c (.clo 93 [])) [(.t 21), (.t 22)],
      .mv 1 (.t 23)]) [.keep [5, 1, 0]])
    (.seq (.post (.r [.mv 24 (.t 1),
      .bin 25 .lss .num (.t 24) (.c (.d (.i .i64 0)))]) [.kill [24]])
    (.cond (.t 25)
      (.pre [.keep []] (.seq (.r [.mv 4 (.c (.d (.i .i64 (-1))))])
      (.ret)))
      (.pre [.kill [25]] (.skip))))))
    (.post (.r [.mv 16 (.t 5),
      .bin 17 .add .num (.t 16) (.c (.d (.i .i64 1))),
      .mv 5 (.t 17)]) [.kill [16, 17]])))
  [.keep [5, 1, 0]]
def m36 : Fn := ⟨2, [.t 4], false,
  .seq (.post (.r [.mv 4 (.c (.d (.i .i64 0)))]) [.kill [4]])
  (.seq (.post (.r [.mv 6 (.t 1),
    .mv 7 (.t 0),
    .len 8 (.t 7),
    .bin 9 .sub .num (.t 6) (.t 8),
    .mv 1 (.t 9)]) [.keep [1, 0]])
  (.seq (.seq (.post (.r [.mv 10 (.t 1),
    .bin 11 .lss .num (.t 10) (.c (.d (.i .i64 0)))]) [.kill [10]])
  (.cond (.t 11)
    (.pre [.keep []] (.seq (.r [.mv 4 (.c (.d (.i .i64 (-1))))])
    (.ret)))
    (.pre [.kill [11]] (.skip))))
  (.seq (.seq (.r [.mv 5 (.c (.d (.i .i64 0)))])
  (.blk 0 (.pre [.keep [5, 1, 0]] (.loop m36l0))))
  (.seq (.post (.r [.mv 26 (.t 1),
    .mv 4 (.t 26)]) [.keep [4]])
  (.ret)))))⟩
/- loop.example/g00452/laws.toPropS -/
/-- live: [0, 3, 4]; objects: [7] -/
def m39l0 : C := .post
  (.seq (.seq (.post (.r [.mv 8 (.t 4),
      .mv 9 (.t 0),
      .len 10 (.t 9),
      .bin 11 .lss .num (.t 8) (.t 10)]) [.kill [8, 9, 10]])
    (.cond (.t 11)
      (.pre [.kill [11]] (.skip))
      (.pre [.keep [3]] (.ex 0))))
    (.seq (.blk 1 (.post (.r [.mv 14 (.t 3),
      .mv 15 (.t 4),
      .mv 16 (.t 0),
      .mv 17 (.t 4),
      .ia 18 3 (.t 16) (.t 17),
      .ld 19 3 true (.t 18),
      .call 20 false (.c (.clo 96 [])) [(.t 19)],
      .ia 21 3 (.t 14) (.t 15),
      .st 3 (.t 21) (.t 20)]) [.keep [4, 3, 0]]))
    (.post (.r [.mv 12 (.t 4),
      .bin 13 .add .num (.t 12) (.c (.d (.i .i64 1))),
      .mv 4 (.t 13)]) [.kill [12, 13]])))
  [.keep [4, 3, 0]]
def m39 : Fn := ⟨1, [.t 2], false,
  .seq (.post (.r [.mv 2 (.c .nil)]) [.kill [2]])
  (.seq (.post (.r [.mv 5 (.t 0),
    .len 6 (.t 5),
    .mk 7 3 48 [.d (.s []), .d (.s []), .d (.s [])] (.t 6),
    .mv 3 (.t 7)]) [.keep [3, 0]])
  (.seq (.seq (.r [.mv 4 (.c (.d (.i .i64 0)))])
  (.blk 0 (.pre [.keep [4, 3, 0]] (.loop m39l0))))
  (.seq (.post (.r [.mv 22 (.t 3),
    .mv 2 (.t 22)]) [.keep [2]])
  (.ret))))⟩
/- loop.example/g00452/laws.eqPropS -/
/-- live: [0, 1, 5]; objects: [] -/
def m43l0 : C := .post
  (.seq (.seq (.post (.r [.mv 11 (.t 5),
      .mv 12 (.t 0),
      .len 13 (.t 12),
      .bin 14 .lss .num (.t 11) (.t 13)]) [.kill [11, 12, 13]])
    (.cond (.t 14)
      (.pre [.kill [14]] (.skip))
      (.pre [.keep []] (.ex 0))))
    (.seq (.blk 1 (.seq (.post (.r [.mv 17 (.t 0),
      .mv 18 (.t 5),
      .ia 19 3 (.t 17) (.t 18),
      .ld 20 3 true (.t 19),
      .mv 21 (.t 1),
      .mv 22 (.t 5),
      .ia 23 3 (.t 21) (.t 22),
      .ld 24 3 true (.t 23),
      .call 25 false (.c (.clo 101 [])) [(.t 20), (.t 24)],
      .not 26 (.t 25)]) [.keep [26, 5, 1, 0]])
    (.cond (.t 26)
      (.pre [.keep []] (.seq (.r [.mv 4 (.c (.d (.b false)))])
      (.ret)))
      (.pre [.kill [26]] (.skip)))))
    (.post (.r [.mv 15 (.t 5),
      .bin 16 .add .num (.t 15) (.c (.d (.i .i64 1))),
      .mv 5 (.t 16)]) [.kill [15, 16]])))
  [.keep [5, 1, 0]]
def m43 : Fn := ⟨2, [.t 4], false,
  .seq (.post (.r [.mv 4 (.c (.d (.b false)))]) [.kill [4]])
  (.seq (.seq (.post (.r [.mv 6 (.t 0),
    .len 7 (.t 6),
    .mv 8 (.t 1),
    .len 9 (.t 8),
    .bin 10 .neq .num (.t 7) (.t 9)]) [.keep [10, 1, 0]])
  (.cond (.t 10)
    (.pre [.keep []] (.seq (.r [.mv 4 (.c (.d (.b false)))])
    (.ret)))
    (.pre [.kill [10]] (.skip))))
  (.seq (.seq (.r [.mv 5 (.c (.d (.i .i64 0)))])
  (.blk 0 (.pre [.keep [5, 1, 0]] (.loop m43l0))))
  (.seq (.r [.mv 4 (.c (.d (.b true)))])
  (.ret))))⟩
/- loop.example/g00452/laws.szResS -/
/-- live: [0, 1, 5]; objects: [] -/
def m55l0 : C := .post
  (.seq (.seq (.post (.r [.mv 12 (.t 5),
      .mv 13 (.t 0),
      .len 14 (.t 13),
      .bin 15 .lss .num (.t 12) (.t 14)]) [.kill [12, 13, 14]])
    (.cond (.t 15)
      (.pre [.kill [15]] (.skip))
      (.pre [.keep [1]] (.ex 0))))
    (.seq (.blk 1 (.seq (.post (.r [.mv 18 (.t 0),
      .mv 19 (.t 5),
      .ia 20 5 (.t 18) (.t 19),
      .ld 21 5 true (.t 20),
      .mv 22 (.t 1),
      .call 23 false (.c (.clo 109 [])) [(.t 21), (.t 22)],
      .mv 1 (.t 23)]) [.keep [5, 1, 0]])
    (.seq (.post (.r [.mv 24 (.t 1),
      .bin 25 .lss .num (.t 24) (.c (.d (.i .i64 0)))]) [.kill [24]])
    (.cond (.t 25)
      (.pre [.keep []] (.seq (.r [.mv 4 (.c (.d (.i .i64 (-1))))])
      (.ret)))
      (.pre [.kill [25]] (.skip))))))
    (.post (.r [.mv 16 (.t 5),
      .bin 17 .add .num (.t 16) (.c (.d (.i .i64 1))),
      .mv 5 (.t 17)]) [.kill [16, 17]])))
  [.keep [5, 1, 0]]
def m55 : Fn := ⟨2, [.t 4], false,
  .seq (.post (.r [.mv 4 (.c (.d (.i .i64 0)))]) [.kill [4]])
  (.seq (.post (.r [.mv 6 (.t 1),
    .mv 7 (.t 0),
    .len 8 (.t 7),
    .bin 9 .sub .num (.t 6) (.t 8),
    .mv 1 (.t 9)]) [.keep [1, 0]])
  (.seq (.seq (.post (.r [.mv 10 (.t 1),
    .bin 11 .lss .num (.t 10) (.c (.d (.i .i64 0)))]) [.kill [10]])
  (.cond (.t 11)
    (.pre [.keep []] (.seq (.r [.mv 4 (.c (.d (.i .i64 (-1))))])
    (.ret)))
    (.pre [.kill [11]] (.skip))))
  (.seq (.seq (.r [.mv 5 (.c (.d (.i .i64 0)))])
  (.blk 0 (.pre [.keep [5, 1, 0]] (.loop m55l0))))
  (.seq (.post (.r [.mv 26 (.t 1),
    .mv 4 (.t 26)]) [.keep [4]])
  (.ret)))))⟩
/- loop.example/g00452/laws.szLockS -/
/-- live: [0, 1, 5]; objects: [] -/
def m56l0 : C := .post
  (.seq (.seq (.post (.r [.mv 12 (.t 5),
      .mv 13 (.t 0),
      .len 14 (.t 13),
      .bin 15 .lss .num (.t 12) (.t 14)]) [.kill [12, 13, 14]])
    (.cond (.t 15)
      (.pre [.kill [15]] (.skip))
      (.pre [.keep [1]] (.ex 0))))
    (.seq (.blk 1 (.seq (.post (.r [.mv 18 (.t 0),
      .mv 19 (.t 5),
      .ia 20 5 (.t 18) (.t 19),
      .ld 21 5 true (.t 20),
      .mv 22 (.t 1),
      .call 23 false (.c (.clo 110 [])) [(.t 21), (.t 22)],
      .mv 1 (.t 23)]) [.keep [5, 1, 0]])
    (.seq (.post (.r [.mv 24 (.t 1),
      .bin 25 .lss .num (.t 24) (.c (.d (.i .i64 0)))]) [.kill [24]])
    (.cond (.t 25)
      (.pre [.keep []] (.seq (.r [.mv 4 (.c (.d (.i .i64 (-1))))])
      (.ret)))
      (.pre [.kill [25]] (.skip))))))
    (.post (.r [.mv 16 (.t 5),
      .bin 17 .add .num (.t 16) (.c (.d (.i .i64 1))),
      .mv 5 (.t 17)]) [.kill [16, 17]])))
  [.keep [5, 1, 0]]
def m56 : Fn := ⟨2, [.t 4], false,
  .seq (.post (.r [.mv 4 (.c (.d (.i .i64 0)))]) [.kill [4]])
  (.seq (.post (.r [.mv 6 (.t 1),
    .mv 7 (.t 0),
    .len 8 (.t 7),
    .bin 9 .sub .num (.t 6) (.t 8),
    .mv 1 (.t 9)]) [.keep [1, 0]])
  (.seq (.seq (.post (.r [.mv 10 (.t 1),
    .bin 11 .lss .num (.t 10) (.c (.d (.i .i64 0)))]) [.kill [10]])
  (.cond (.t 11)
    (.pre [.keep []] (.seq (.r [.mv 4 (.c (.d (.i .i64 (-1))))])
    (.ret)))
    (.pre [.kill [11]] (.skip))))
  (.seq (.seq (.r [.mv 5 (.c (.d (.i .i64 0)))])
  (.blk 0 (.pre [.keep [5, 1, 0]] (.loop m56l0))))
  (.seq (.post (.r [.mv 26 (.t 1),
    .mv 4 (.t 26)]) [.keep [4]])
  (.ret)))))⟩
/- loop.example/g00452/laws.szIntS -/
def m57 : Fn := ⟨2, [.t 4], false,
  .seq (.post (.r [.mv 4 (.c (.d (.i .i64 0)))]) [.kill [4]])
  (.seq (.post (.r [.mv 5 (.t 1),
    .mv 6 (.t 0),
    .len 7 (.t 6),
    .bin 8 .sub .num (.t 5) (.t 7),
    .mv 1 (.t 8)]) [.keep [1]])
  (.seq (.seq (.post (.r [.mv 9 (.t 1),
    .bin 10 .lss .num (.t 9) (.c (.d (.i .i64 0)))]) [.kill [9]])
  (.cond (.t 10)
    (.pre [.keep []] (.seq (.r [.mv 4 (.c (.d (.i .i64 (-1))))])
    (.ret)))
    (.pre [.kill [10]] (.skip))))
  (.seq (.post (.r [.mv 11 (.t 1),
    .mv 4 (.t 11)]) [.keep [4]])
  (.ret))))⟩
/- loop.example/g00452/spec.FindRes -/
/-- live: [0, 1, 5]; objects: [] -/
def m58l0 : C := .post
  (.seq (.seq (.post (.r [.mv 6 (.t 5),
      .mv 7 (.t 0),
      .len 8 (.t 7),
      .bin 9 .lss .num (.t 6) (.t 8)]) [.kill [6, 7, 8]])
    (.cond (.t 9)
      (.pre [.kill [9]] (.skip))
      (.pre [.keep []] (.ex 0))))
    (.seq (.blk 1 (.seq (.post (.r [.mv 12 (.t 0),
      .mv 13 (.t 5),
      .ia 14 5 (.t 12) (.t 13),
      .fa 15 (.t 14) 0,
      .ld 16 1 false (.t 15),
      .mv 17 (.t 1),
      .call 18 false (.c (.clo 111 [])) [(.t 16), (.t 17)]]) [.keep [18, 5, 1, 0]])
    (.cond (.t 18)
      (.pre [.keep [5]] (.seq (.post (.r [.mv 19 (.t 5),
        .mv 4 (.t 19)]) [.keep [4]])
      (.ret)))
      (.pre [.kill [18]] (.skip)))))
    (.post (.r [.mv 10 (.t 5),
      .bin 11 .add .num (.t 10) (.c (.d (.i .i64 1))),
      .mv 5 (.t 11)]) [.kill [10, 11]])))
  [.keep [5, 1, 0]]
def m58 : Fn := ⟨2, [.t 4], false,
  .seq (.post (.r [.mv 4 (.c (.d (.i .i64 0)))]) [.kill [4]])
  (.seq (.seq (.r [.mv 5 (.c (.d (.i .i64 0)))])
  (.blk 0 (.pre [.keep [5, 1, 0]] (.loop m58l0))))
  (.seq (.r [.mv 4 (.c (.d (.i .i64 (-1))))])
  (.ret)))⟩
/- loop.example/g00452/laws.toResS -/
/-- live: [0, 3, 4]; objects: [7] -/
def m59l0 : C := .post
  (.seq (.seq (.post (.r [.mv 8 (.t 4),
      .mv 9 (.t 0),
      .len 10 (.t 9),
      .bin 11 .lss .num (.t 8) (.t 10)]) [.kill [8, 9, 10]])
    (.cond (.t 11)
      (.pre [.kill [11]] (.skip))
      (.pre [.keep [3]] (.ex 0))))
    (.seq (.blk 1 (.post (.r [.mv 14 (.t 3),
      .mv 15 (.t 4),
      .mv 16 (.t 0),
      .mv 17 (.t 4),
      .ia 18 5 (.t 16) (.t 17),
      .ld 19 5 true (.t 18),
      .call 20 false (.c (.clo 112 [])) [(.t 19)],
      .ia 21 5 (.t 14) (.t 15),
      .st 5 (.t 21) (.t 20)]) [.keep [4, 3, 0]]))
    (.post (.r [.mv 12 (.t 4),
      .bin 13 .add .num (.t 12) (.c (.d (.i .i64 1))),
      .mv 4 (.t 13)]) [.kill [12, 13]])))
  [.keep [4, 3, 0]]
def m59 : Fn := ⟨1, [.t 2], false,
  .seq (.post (.r [.mv 2 (.c .nil)]) [.kill [2]])
  (.seq (.post (.r [.mv 5 (.t 0),
    .len 6 (.t 5),
    .mk 7 5 80 [.nil, .d (.b false), .d (.s []), .d (.i .i64 0), .nil] (.t 6),
    .mv 3 (.t 7)]) [.keep [3, 0]])
  (.seq (.seq (.r [.mv 4 (.c (.d (.i .i64 0)))])
  (.blk 0 (.pre [.keep [4, 3, 0]] (.loop m59l0))))
  (.seq (.post (.r [.mv 22 (.t 3),
    .mv 2 (.t 22)]) [.keep [2]])
  (.ret))))⟩
/- loop.example/g00452/laws.toLockS -/
/-- live: [0, 3, 4]; objects: [7] -/
def m60l0 : C := .post
  (.seq (.seq (.post (.r [.mv 8 (.t 4),
      .mv 9 (.t 0),
      .len 10 (.t 9),
      .bin 11 .lss .num (.t 8) (.t 10)]) [.kill [8, 9, 10]])
    (.cond (.t 11)
      (.pre [.kill [11]] (.skip))
      (.pre [.keep [3]] (.ex 0))))
    (.seq (.blk 1 (.post (.r [.mv 14 (.t 3),
      .mv 15 (.t 4),
      .mv 16 (.t 0),
      .mv 17 (.t 4),
      .ia 18 5 (.t 16) (.t 17),
      .ld 19 5 true (.t 18),
      .call 20 false (.c (.clo 113 [])) [(.t 19)],
      .ia 21 5 (.t 14) (.t 15),
      .st 5 (.t 21) (.t 20)]) [.keep [4, 3, 0]]))
    (.post (.r [.mv 12 (.t 4),
      .bin 13 .add .num (.t 12) (.c (.d (.i .i64 1))),
      .mv 4 (.t 13)]) [.kill [12, 13]])))
  [.keep [4, 3, 0]]
def m60 : Fn := ⟨1, [.t 2], false,
  .seq (.post (.r [.mv 2 (.c .nil)]) [.kill [2]])
  (.seq (.post (.r [.mv 5 (.t 0),
    .len 6 (.t 5),
    .mk 7 5 48 [.d (.i .i64 0), .nil, .d (.b false), .d (.b false), .d (.i .i64 0)] (.t 6),
    .mv 3 (.t 7)]) [.keep [3, 0]])
  (.seq (.seq (.r [.mv 4 (.c (.d (.i .i64 0)))])
  (.blk 0 (.pre [.keep [4, 3, 0]] (.loop m60l0))))
  (.seq (.post (.r [.mv 22 (.t 3),
    .mv 2 (.t 22)]) [.keep [2]])
  (.ret))))⟩
/- loop.example/g00452/laws.toIntS -/
/-- live: [0, 3, 4]; objects: [7] -/
def m61l0 : C := .post
  (.seq (.seq (.post (.r [.mv 8 (.t 4),
      .mv 9 (.t 0),
      .len 10 (.t 9),
      .bin 11 .lss .num (.t 8) (.t 10)]) [.kill [8, 9, 10]])
    (.cond (.t 11)
      (.pre [.kill [11]] (.skip))
      (.pre [.keep [3]] (.ex 0))))
    (.seq (.blk 1 (.post (.r [.mv 14 (.t 3),
      .mv 15 (.t 4),
      .mv 16 (.t 0),
      .mv 17 (.t 4),
      .ia 18 1 (.t 16) (.t 17),
      .ld 19 1 false (.t 18),
      .ia 20 1 (.t 14) (.t 15),
      .st 1 (.t 20) (.t 19)]) [.keep [4, 3, 0]]))
    (.post (.r [.mv 12 (.t 4),
      .bin 13 .add .num (.t 12) (.c (.d (.i .i64 1))),
      .mv 4 (.t 13)]) [.kill [12, 13]])))
  [.keep [4, 3, 0]]
def m61 : Fn := ⟨1, [.t 2], false,
  .seq (.post (.r [.mv 2 (.c .nil)]) [.kill [2]])
  (.seq (.post (.r [.mv 5 (.t 0),
    .len 6 (.t 5),
    .mk 7 1 8 [.d (.i .i64 0)] (.t 6),
    .mv 3 (.t 7)]) [.keep [3, 0]])
  (.seq (.seq (.r [.mv 4 (.c (.d (.i .i64 0)))])
  (.blk 0 (.pre [.keep [4, 3, 0]] (.loop m61l0))))
  (.seq (.post (.r [.mv 21 (.t 3),
    .mv 2 (.t 21)]) [.keep [2]])
  (.ret))))⟩
/- loop.example/g00452/impl.FindRes -/
/-- live: [1, 7, 8, 9]; objects: [] -/
def m62l0 : C := .post
  (.seq (.r [.bin 10 .lss .num (.t 9) (.t 8)])
    (.seq (.cond (.t 10)
      (.pre [.kill [10]] (.skip))
      (.pre [.keep []] (.ex 0)))
    (.seq (.blk 1 (.seq (.post (.r [.mv 11 (.t 9),
      .ia 12 5 (.t 7) (.t 9),
      .ld 13 5 true (.t 12),
      .al 6 [.nil, .d (.b false), .d (.s []), .d (.i .i64 0), .nil],
      .mv 5 (.t 11),
      .st 5 (.t 6) (.t 13)]) [.kill [11, 12, 13]])
    (.seq (.post (.r [.fa 14 (.t 6) 0,
      .ld 15 1 false (.t 14),
      .mv 16 (.t 1),
      .call 17 false (.c (.clo 114 [])) [(.t 15), (.t 16)]]) [.kill [6, 14, 15, 16]])
    (.cond (.t 17)
      (.pre [.keep [5]] (.seq (.post (.r [.mv 18 (.t 5),
        .mv 4 (.t 18)]) [.keep [4]])
      (.ret)))
      (.pre [.kill [5, 17]] (.skip))))))
    (.post (.r [.bin 19 .add .num (.t 9) (.c (.d (.i .i64 1))),
      .mv 9 (.t 19)]) [.kill [19]]))))
  [.keep [9, 8, 7, 1], .drop [6]]
def m62 : Fn := ⟨2, [.t 4], false,
  .seq (.post (.r [.mv 4 (.c (.d (.i .i64 0)))]) [.kill [4]])
  (.seq (.seq (.post (.r [.mv 7 (.t 0),
    .len 8 (.t 7),
    .mv 9 (.c (.d (.i .i64 0)))]) [.kill [0]])
  (.blk 0 (.pre [.keep [9, 8, 7, 1]] (.loop m62l0))))
  (.seq (.r [.mv 4 (.c (.d (.i .i64 (-1))))])
  (.ret)))⟩
/- loop.example/g00452/laws.eqResS -/
/-- live: [0, 1, 5]; objects: [] -/
def m63l0 : C := .post
  (.seq (.seq (.post (.r [.mv 11 (.t 5),
      .mv 12 (.t 0),
      .len 13 (.t 12),
      .bin 14 .lss .num (.t 11) (.t 13)]) [.kill [11, 12, 13]])
    (.cond (.t 14)
      (.pre [.kill [14]] (.skip))
      (.pre [.keep []] (.ex 0))))
    (.seq (.blk 1 (.seq (.post (.r [.mv 17 (.t 0),
      .mv 18 (.t 5),
      .ia 19 5 (.t 17) (.t 18),
      .ld 20 5 true (.t 19),
      .mv 21 (.t 1),
      .mv 22 (.t 5),
      .ia 23 5 (.t 21) (.t 22),
      .ld 24 5 true (.t 23),
      .call 25 false (.c (.clo 115 [])) [(.t 20), (.t 24)],
      .not 26 (.t 25)]) [.keep [26, 5, 1, 0]])
    (.cond (.t 26)
      (.pre [.keep []] (.seq (.r [.mv 4 (.c (.d (.b false)))])
      (.ret)))
      (.pre [.kill [26]] (.skip)))))
    (.post (.r [.mv 15 (.t 5),
      .bin 16 .add .num (.t 15) (.c (.d (.i .i64 1))),
      .mv 5 (.t 16)]) [.kill [15, 16]])))
  [.keep [5, 1, 0]]
def m63 : Fn := ⟨2, [.t 4], false,
  .seq (.post (.r [.mv 4 (.c (.d (.b false)))]) [.kill [4]])
  (.seq (.seq (.post (.r [.mv 6 (.t 0),
    .len 7 (.t 6),
    .mv 8 (.t 1),
    .len 9 (.t 8),
    .bin 10 .neq .num (.t 7) (.t 9)]) [.keep [10, 1, 0]])
  (.cond (.t 10)
    (.pre [.keep []] (.seq (.r [.mv 4 (.c (.d (.b false)))])
    (.ret)))
    (.pre [.kill [10]] (.skip))))
  (.seq (.seq (.r [.mv 5 (.c (.d (.i .i64 0)))])
  (.blk 0 (.pre [.keep [5, 1, 0]] (.loop m63l0))))
  (.seq (.r [.mv 4 (.c (.d (.b true)))])
  (.ret))))⟩
/- loop.example/g00452/laws.eqLockS -/
/-- live: [0, 1, 5]; objects: [] -/
def m64l0 : C := .post
  (.seq (.seq (.post (.r [.mv 11 (.t 5),
      .mv 12 (.t 0),
      .len 13 (.t 12),
      .bin 14 .lss .num (.t 11) (.t 13)]) [.kill [11, 12, 13]])
    (.cond (.t 14)
      (.pre [.kill [14]] (.skip))
      (.pre [.keep []] (.ex 0))))
    (.seq (.blk 1 (.seq (.post (.r [.mv 17 (.t 0),
      .mv 18 (.t 5),
      .ia 19 5 (.t 17) (.t 18),
      .ld 20 5 true (.t 19),
      .mv 21 (.t 1),
      .mv 22 (.t 5),
      .ia 23 5 (.t 21) (.t 22),
      .ld 24 5 true (.t 23),
      .call 25 false (.c (.clo 116 [])) [(.t 20), (.t 24)],
      .not 26 (.t 25)]) [.keep [26, 5, 1, 0]])
    (.cond (.t 26)
      (.pre [.keep []] (.seq (.r [.mv 4 (.c (.d (.b false)))])
      (.ret)))
      (.pre [.kill [26]] (.skip)))))
    (.post (.r [.mv 15 (.t 5),
      .bin 16 .add .num (.t 15) (.c (.d (.i .i64 1))),
      .mv 5 (.t 16)]) [.kill [15, 16]])))
  [.keep [5, 1, 0]]
def m64 : Fn := ⟨2, [.t 4], false,
  .seq (.post (.r [.mv 4 (.c (.d (.b false)))]) [.kill [4]])
  (.seq (.seq (.post (.r [.mv 6 (.t 0),
    .len 7 (.t 6),
    .mv 8 (.t 1),
    .len 9 (.t 8),
    .bin 10 .neq .num (.t 7) (.t 9)]) [.keep [10, 1, 0]])
  (.cond (.t 10)
    (.pre [.keep []] (.seq (.r [.mv 4 (.c (.d (.b false)))])
    (.ret)))
    (.pre [.kill [10]] (.skip))))
  (.seq (.seq (.r [.mv 5 (.c (.d (.i .i64 0)))])
  (.blk 0 (.pre [.keep [5, 1, 0]] (.loop m64l0))))
  (.seq (.r [.mv 4 (.c (.d (.b true)))])
  (.ret))))⟩
/- loop.example/g00452/laws.eqIntS -/
/-- live: [0, 1, 5]; objects: [] -/
def m65l0 : C := .post
  (.seq (.seq (.post (.r [.mv 11 (.t 5),
      .mv 12 (.t 0),
      .len 13 (.t 12),
      .bin 14 .lss .num (.t 11) (.t 13)]) [.kill [11, 12, 13]])
    (.cond (.t 14)
      (.pre [.kill [14]] (.skip))
      (.pre [.keep []] (.ex 0))))
    (.seq (.blk 1 (.seq (.post (.r [.mv 17 (.t 0),
      .mv 18 (.t 5),
      .ia 19 1 (.t 17) (.t 18),
      .ld 20 1 false (.t 19),
      .mv 21 (.t 1),
      .mv 22 (.t 5),
      .ia 23 1 (.t 21) (.t 22),
      .ld 24 1 false (.t 23),
      .bin 25 .neq .num (.t 20) (.t 24)]) [.keep [25, 5, 1, 0]])
    (.cond (.t 25)
      (.pre [.keep []] (.seq (.r [.mv 4 (.c (.d (.b false)))])
      (.ret)))
      (.pre [.kill [25]] (.skip)))))
    (.post (.r [.mv 15 (.t 5),
      .bin 16 .add .num (.t 15) (.c (.d (.i .i64 1))),
      .mv 5 (.t 16)]) [.kill [15, 16]])))
  [.keep [5, 1, 0]]
def m65 : Fn := ⟨2, [.t 4], false,
  .seq (.post (.r [.mv 4 (.c (.d (.b false)))]) [.kill [4]])
  (.seq (.seq (.post (.r [.mv 6 (.t 0),
    .len 7 (.t 6),
    .mv 8 (.t 1),
    .len 9 (.t 8),
    .bin 10 .neq .num (.t 7) (.t 9)]) [.keep [10, 1, 0]])
  (.cond (.t 10)
    (.pre [.keep []] (.seq (.r [.mv 4 (.c (.d (.b false)))])
    (.ret)))
    (.pre [.kill [10]] (.skip))))
  (.seq (.seq (.r [.mv 5 (.c (.d (.i .i64 0)))])
  (.blk 0 (.pre [.keep [5, 1, 0]] (.loop m65l0))))
  (.seq (.r [.mv 4 (.c (.d (.b true)))])
  (.ret))))⟩
/- loop.example/g00452/laws.szProp -/
def m93 : Fn := ⟨2, [.t 4], false,
  .seq (.post (.r [.bx 2 (.t 0),
    .mv 4 (.c (.d (.i .i64 0)))]) [.kill [0, 4]])
  (.seq (.post (.r [.mv 5 (.t 1),
    .fa 6 (.t 2) 0,
    .ld 7 1 false (.t 6),
    .lns 8 (.t 7),
    .bin 9 .sub .num (.t 5) (.t 8),
    .mv 1 (.t 9)]) [.keep [2, 1]])
  (.seq (.seq (.post (.r [.mv 10 (.t 1),
    .bin 11 .lss .num (.t 10) (.c (.d (.i .i64 0)))]) [.kill [10]])
  (.cond (.t 11)
    (.pre [.keep []] (.seq (.r [.mv 4 (.c (.d (.i .i64 (-1))))])
    (.ret)))
    (.pre [.kill [11]] (.skip))))
  (.seq (.post (.r [.mv 12 (.t 1),
    .fa 13 (.t 2) 1,
    .ld 14 1 false (.t 13),
    .lns 15 (.t 14),
    .bin 16 .sub .num (.t 12) (.t 15),
    .mv 1 (.t 16)]) [.keep [2, 1]])
  (.seq (.seq (.post (.r [.mv 17 (.t 1),
    .bin 18 .lss .num (.t 17) (.c (.d (.i .i64 0)))]) [.kill [17]])
  (.cond (.t 18)
    (.pre [.keep []] (.seq (.r [.mv 4 (.c (.d (.i .i64 (-1))))])
    (.ret)))
    (.pre [.kill [18]] (.skip))))
  (.seq (.post (.r [.mv 19 (.t 1),
    .fa 20 (.t 2) 2,
    .ld 21 1 false (.t 20),
    .lns 22 (.t 21),
    .bin 23 .sub .num (.t 19) (.t 22),
    .mv 1 (.t 23)]) [.keep [1]])
  (.seq (.seq (.post (.r [.mv 24 (.t 1),
    .bin 25 .lss .num (.t 24) (.c (.d (.i .i64 0)))]) [.kill [24]])
  (.cond (.t 25)
    (.pre [.keep []] (.seq (.r [.mv 4 (.c (.d (.i .i64 (-1))))])
    (.ret)))
    (.pre [.kill [25]] (.skip))))
  (.seq (.post (.r [.mv 26 (.t 1),
    .mv 4 (.t 26)]) [.keep [4]])
  (.ret))))))))⟩
/- loop.example/g00452/laws.toProp -/
def m96 : Fn := ⟨1, [.cell 2 3 true], false,
  .seq (.post (.r [.bx 1 (.t 0),
    .al 2 [.d (.s []), .d (.s []), .d (.s [])]]) [.kill [0]])
  (.seq (.r [.al 3 [.d (.s []), .d (.s []), .d (.s [])]])
  (.seq (.post (.r [.fa 4 (.t 1) 0,
    .ld 5 1 false (.t 4),
    .fa 6 (.t 3) 0,
    .st 1 (.t 6) (.t 5)]) [.kill [4, 5, 6]])
  (.seq (.post (.r [.fa 7 (.t 1) 1,
    .ld 8 1 false (.t 7),
    .fa 9 (.t 3) 1,
    .st 1 (.t 9) (.t 8)]) [.kill [7, 8, 9]])
  (.seq (.post (.r [.fa 10 (.t 1) 2,
    .ld 11 1 false (.t 10),
    .fa 12 (.t 3) 2,
    .st 1 (.t 12) (.t 11)]) [.keep [3, 2]])
  (.seq (.post (.r [.ld 13 3 true (.t 3),
    .st 3 (.t 2) (.t 13)]) [.keep [2]])
  (.ret))))))⟩
/- loop.example/g00452/laws.eqProp -/
def m101 : Fn := ⟨2, [.t 4], false,
  .seq (.post (.r [.bx 2 (.t 0),
    .bx 3 (.t 1),
    .mv 4 (.c (.d (.b false)))]) [.keep [3, 2]])
  (.seq (.seq (.post (.r [.fa 5 (.t 2) 0,
    .ld 6 1 false (.t 5),
    .fa 7 (.t 3) 0,
    .ld 8 1 false (.t 7),
    .bin 9 .neq .num (.t 6) (.t 8)]) [.keep [9, 3, 2]])
  (.cond (.t 9)
    (.pre [.keep []] (.seq (.r [.mv 4 (.c (.d (.b false)))])
    (.ret)))
    (.pre [.kill [9]] (.skip))))
  (.seq (.seq (.post (.r [.fa 10 (.t 2) 1,
    .ld 11 1 false (.t 10),
    .fa 12 (.t 3) 1,
    .ld 13 1 false (.t 12),
    .bin 14 .neq .num (.t 11) (.t 13)]) [.keep [14, 3, 2]])
  (.cond (.t 14)
    (.pre [.keep []] (.seq (.r [.mv 4 (.c (.d (.b false)))])
    (.ret)))
    (.pre [.kill [14]] (.skip))))
  (.seq (.seq (.post (.r [.fa 15 (.t 2) 2,
    .ld 16 1 false (.t 15),
    .fa 17 (.t 3) 2,
    .ld 18 1 false (.t 17),
    .bin 19 .neq .num (.t 16) (.t 18)]) [.keep [19]])
  (.cond (.t 19)
    (.pre [.keep []] (.seq (.r [.mv 4 (.c (.d (.b false)))])
    (.ret)))
    (.pre [.keep []] (.skip))))
  (.seq (.r [.mv 4 (.c (.d (.b true)))])
  (.ret)))))⟩
/- loop.example/g00452/laws.szRes -/
def m109 : Fn := ⟨2, [.t 4], false,
  .seq (.post (.r [.bx 2 (.t 0),
    .mv 4 (.c (.d (.i .i64 0)))]) [.kill [0, 4]])
  (.seq (.post (.r [.fa 5 (.t 2) 0,
    .ld 6 1 false (.t 5),
    .mv 7 (.t 1),
    .call 8 false (.c (.clo 24 [])) [(.t 6), (.t 7)],
    .mv 1 (.t 8)]) [.keep [2, 1]])
  (.seq (.seq (.post (.r [.mv 9 (.t 1),
    .bin 10 .lss .num (.t 9) (.c (.d (.i .i64 0)))]) [.kill [9]])
  (.cond (.t 10)
    (.pre [.keep []] (.seq (.r [.mv 4 (.c (.d (.i .i64 (-1))))])
    (.ret)))
    (.pre [.kill [10]] (.skip))))
  (.seq (.post (.r [.mv 11 (.t 1),
    .fa 12 (.t 2) 2,
    .ld 13 1 false (.t 12),
    .lns 14 (.t 13),
    .bin 15 .sub .num (.t 11) (.t 14),
    .mv 1 (.t 15)]) [.keep [2, 1]])
  (.seq (.seq (.post (.r [.mv 16 (.t 1),
    .bin 17 .lss .num (.t 16) (.c (.d (.i .i64 0)))]) [.kill [16]])
  (.cond (.t 17)
    (.pre [.keep []] (.seq (.r [.mv 4 (.c (.d (.i .i64 (-1))))])
    (.ret)))
    (.pre [.kill [17]] (.skip))))
  (.seq (.post (.r [.fa 18 (.t 2) 4,
    .ld 19 1 false (.t 18),
    .mv 20 (.t 1),
    .call 21 false (.c (.clo 36 [])) [(.t 19), (.t 20)],
    .mv 1 (.t 21)]) [.keep [1]])
  (.seq (.seq (.post (.r [.mv 22 (.t 1),
    .bin 23 .lss .num (.t 22) (.c (.d (.i .i64 0)))]) [.kill [22]])
  (.cond (.t 23)
    (.pre [.keep []] (.seq (.r [.mv 4 (.c (.d (.i .i64 (-1))))])
    (.ret)))
    (.pre [.kill [23]] (.skip))))
  (.seq (.post (.r [.mv 24 (.t 1),
    .mv 4 (.t 24)]) [.keep [4]])
  (.ret))))))))⟩
/- loop.example/g00452/laws.szLock -/
def m110 : Fn := ⟨2, [.t 4], false,
  .seq (.post (.r [.bx 2 (.t 0),
    .mv 4 (.c (.d (.i .i64 0)))]) [.kill [0, 4]])
  (.seq (.post (.r [.fa 5 (.t 2) 1,
    .ld 6 1 false (.t 5),
    .mv 7 (.t 1),
    .call 8 false (.c (.clo 24 [])) [(.t 6), (.t 7)],
    .mv 1 (.t 8)]) [.keep [1]])
  (.seq (.seq (.post (.r [.mv 9 (.t 1),
    .bin 10 .lss .num (.t 9) (.c (.d (.i .i64 0)))]) [.kill [9]])
  (.cond (.t 10)
    (.pre [.keep []] (.seq (.r [.mv 4 (.c (.d (.i .i64 (-1))))])
    (.ret)))
    (.pre [.kill [10]] (.skip))))
  (.seq (.post (.r [.mv 11 (.t 1),
    .mv 4 (.t 11)]) [.keep [4]])
  (.ret))))⟩
/- loop.example/g00452/spec.SamePath -/
/-- live: [0, 1, 5]; objects: [] -/
def m111l0 : C := .post
  (.seq (.seq (.post (.r [.mv 11 (.t 5),
      .mv 12 (.t 0),
      .len 13 (.t 12),
      .bin 14 .lss .num (.t 11) (.t 13)]) [.kill [11, 12, 13]])
    (.cond (.t 14)
      (.pre [.kill [14]] (.skip))
      (.pre [.keep []] (.ex 0))))
    (.seq (.blk 1 (.seq (.post (.r [.mv 17 (.t 0),
      .mv 18 (.t 5),
      .ia 19 1 (.t 17) (.t 18),
      .ld 20 1 false (.t 19),
      .mv 21 (.t 1),
      .mv 22 (.t 5),
      .ia 23 1 (.t 21) (.t 22),
      .ld 24 1 false (.t 23),
      .bin 25 .neq .num (.t 20) (.t 24)]) [.keep [25, 5, 1, 0]])
    (.cond (.t 25)
      (.pre [.keep []] (.seq (.r [.mv 4 (.c (.d (.b false)))])
      (.ret)))
      (.pre [.kill [25]] (.skip)))))
    (.post (.r [.mv 15 (.t 5),
      .bin 16 .add .num (.t 15) (.c (.d (.i .i64 1))),
      .mv 5 (.t 16)]) [.kill [15, 16]])))
  [.keep [5, 1, 0]]
def m111 : Fn := ⟨2, [.t 4], false,
  .seq (.post (.r [.mv 4 (.c (.d (.b false)))]) [.kill [4]])
  (.seq (.seq (.post (.r [.mv 6 (.t 0),
    .len 7 (.t 6),
    .mv 8 (.t 1),
    .len 9 (.t 8),
    .bin 10 .neq .num (.t 7) (.t 9)]) [.keep [10, 1, 0]])
  (.cond (.t 10)
    (.pre [.keep []] (.seq (.r [.mv 4 (.c (.d (.b false)))])
    (.ret)))
    (.pre [.kill [10]] (.skip))))
  (.seq (.seq (.r [.mv 5 (.c (.d (.i .i64 0)))])
  (.blk 0 (.pre [.keep [5, 1, 0]] (.loop m111l0))))
  (.seq (.r [.mv 4 (.c (.d (.b true)))])
  (.ret))))⟩
/- loop.example/g00452/laws.toRes -/
def m112 : Fn := ⟨1, [.cell 2 5 true], false,
  .seq (.post (.r [.bx 1 (.t 0),
    .al 2 [.nil, .d (.b false), .d (.s []), .d (.i .i64 0), .nil]]) [.kill [0]])
  (.seq (.r [.al 3 [.nil, .d (.b false), .d (.s []), .d (.i .i64 0), .nil]])
  (.seq (.post (.r [.fa 4 (.t 1) 0,
    .ld 5 1 false (.t 4),
    .call 6 false (.c (.clo 27 [])) [(.t 5)],
    .fa 7 (.t 3) 0,
    .st 1 (.t 7) (.t 6)]) [.keep [3, 2, 1]])
  (.seq (.post (.r [.fa 8 (.t 1) 1,
    .ld 9 1 false (.t 8),
    .fa 10 (.t 3) 1,
    .st 1 (.t 10) (.t 9)]) [.kill [8, 9, 10]])
  (.seq (.post (.r [.fa 11 (.t 1) 2,
    .ld 12 1 false (.t 11),
    .fa 13 (.t 3) 2,
    .st 1 (.t 13) (.t 12)]) [.kill [11, 12, 13]])
  (.seq (.post (.r [.fa 14 (.t 1) 3,
    .ld 15 1 false (.t 14),
    .fa 16 (.t 3) 3,
    .st 1 (.t 16) (.t 15)]) [.kill [14, 15, 16]])
  (.seq (.post (.r [.fa 17 (.t 1) 4,
    .ld 18 1 false (.t 17),
    .call 19 false (.c (.clo 39 [])) [(.t 18)],
    .fa 20 (.t 3) 4,
    .st 1 (.t 20) (.t 19)]) [.keep [3, 2]])
  (.seq (.post (.r [.ld 21 5 true (.t 3),
    .st 5 (.t 2) (.t 21)]) [.keep [2]])
  (.ret))))))))⟩
/- loop.example/g00452/laws.toLock -/
def m113 : Fn := ⟨1, [.cell 2 5 true], false,
  .seq (.post (.r [.bx 1 (.t 0),
    .al 2 [.d (.i .i64 0), .nil, .d (.b false), .d (.b false), .d (.i .i64 0)]]) [.kill [0]])
  (.seq (.r [.al 3 [.d (.i .i64 0), .nil, .d (.b false), .d (.b false), .d (.i .i64 0)]])
  (.seq (.post (.r [.fa 4 (.t 1) 0,
    .ld 5 1 false (.t 4),
    .fa 6 (.t 3) 0,
    .st 1 (.t 6) (.t 5)]) [.kill [4, 5, 6]])
  (.seq (.post (.r [.fa 7 (.t 1) 1,
    .ld 8 1 false (.t 7),
    .call 9 false (.c (.clo 27 [])) [(.t 8)],
    .fa 10 (.t 3) 1,
    .st 1 (.t 10) (.t 9)]) [.keep [3, 2, 1]])
  (.seq (.post (.r [.fa 11 (.t 1) 2,
    .ld 12 1 false (.t 11),
    .fa 13 (.t 3) 2,
    .st 1 (.t 13) (.t 12)]) [.kill [11, 12, 13]])
  (.seq (.post (.r [.fa 14 (.t 1) 3,
    .ld 15 1 false (.t 14),
    .fa 16 (.t 3) 3,
    .st 1 (.t 16) (.t 15)]) [.kill [14, 15, 16]])
  (.seq (.post (.r [.fa 17 (.t 1) 4,
    .ld 18 1 false (.t 17),
    .fa 19 (.t 3) 4,
    .st 1 (.t 19) (.t 18)]) [.keep [3, 2]])
  (.seq (.post (.r [.ld 20 5 true (.t 3),
    .st 5 (.t 2) (.t 20)]) [.keep [2]])
  (.ret))))))))⟩
/- loop.example/g00452/impl.SamePath -/
/-- live: [0, 1, 12, 13]; objects: [] -/
def m114l0 : C := .post
  (.seq (.r [.bin 14 .lss .num (.t 13) (.t 12)])
    (.seq (.cond (.t 14)
      (.pre [.kill [14]] (.skip))
      (.pre [.keep []] (.ex 0)))
    (.seq (.blk 1 (.seq (.post (.r [.mv 15 (.t 13),
      .mv 5 (.t 15)]) [.kill [15]])
    (.seq (.post (.r [.mv 16 (.t 0),
      .mv 17 (.t 5),
      .ia 18 1 (.t 16) (.t 17),
      .ld 19 1 false (.t 18),
      .mv 20 (.t 1),
      .mv 21 (.t 5),
      .ia 22 1 (.t 20) (.t 21),
      .ld 23 1 false (.t 22),
      .bin 24 .neq .num (.t 19) (.t 23)]) [.keep [24, 13, 12, 1, 0]])
    (.cond (.t 24)
      (.pre [.keep []] (.seq (.r [.mv 4 (.c (.d (.b false)))])
      (.ret)))
      (.pre [.kill [24]] (.skip))))))
    (.post (.r [.bin 25 .add .num (.t 13) (.c (.d (.i .i64 1))),
      .mv 13 (.t 25)]) [.kill [25]]))))
  [.keep [13, 12, 1, 0]]
def m114 : Fn := ⟨2, [.t 4], false,
  .seq (.post (.r [.mv 4 (.c (.d (.b false)))]) [.kill [4]])
  (.seq (.seq (.post (.r [.mv 6 (.t 0),
    .len 7 (.t 6),
    .mv 8 (.t 1),
    .len 9 (.t 8),
    .bin 10 .neq .num (.t 7) (.t 9)]) [.keep [10, 1, 0]])
  (.cond (.t 10)
    (.pre [.keep []] (.seq (.r [.mv 4 (.c (.d (.b false)))])
    (.ret)))
    (.pre [.kill [10]] (.skip))))
  (.seq (.seq (.post (.r [.mv 11 (.t 0),
    .len 12 (.t 11),
    .mv 13 (.c (.d (.i .i64 0)))]) [.kill [11]])
  (.blk 0 (.pre [.keep [13, 12, 1, 0]] (.loop m114l0))))
  (.seq (.r [.mv 4 (.c (.d (.b true)))])
  (.ret))))⟩
/- loop.example/g00452/laws.eqRes -/
def m115 : Fn := ⟨2, [.t 4], false,
  .seq (.post (.r [.bx 2 (.t 0),
    .bx 3 (.t 1),
    .mv 4 (.c (.d (.b false)))]) [.keep [3, 2]])
  (.seq (.seq (.post (.r [.fa 5 (.t 2) 0,
    .ld 6 1 false (.t 5),
    .fa 7 (.t 3) 0,
    .ld 8 1 false (.t 7),
    .call 9 false (.c (.clo 30 [])) [(.t 6), (.t 8)],
    .not 10 (.t 9)]) [.keep [10, 3, 2]])
  (.cond (.t 10)
    (.pre [.keep []] (.seq (.r [.mv 4 (.c (.d (.b false)))])
    (.ret)))
    (.pre [.kill [10]] (.skip))))
  (.seq (.seq (.post (.r [.fa 11 (.t 2) 1,
    .ld 12 1 false (.t 11),
    .fa 13 (.t 3) 1,
    .ld 14 1 false (.t 13),
    .bin 15 .neq .flag (.t 12) (.t 14)]) [.keep [15, 3, 2]])
  (.cond (.t 15)
    (.pre [.keep []] (.seq (.r [.mv 4 (.c (.d (.b false)))])
    (.ret)))
    (.pre [.kill [15]] (.skip))))
  (.seq (.seq (.post (.r [.fa 16 (.t 2) 2,
    .ld 17 1 false (.t 16),
    .fa 18 (.t 3) 2,
    .ld 19 1 false (.t 18),
    .bin 20 .neq .num (.t 17) (.t 19)]) [.keep [20, 3, 2]])
  (.cond (.t 20)
    (.pre [.keep []] (.seq (.r [.mv 4 (.c (.d (.b false)))])
    (.ret)))
    (.pre [.kill [20]] (.skip))))
  (.seq (.seq (.post (.r [.fa 21 (.t 2) 3,
    .ld 22 1 false (.t 21),
    .fa 23 (.t 3) 3,
    .ld 24 1 false (.t 23),
    .bin 25 .neq .num (.t 22) (.t 24)]) [.keep [25, 3, 2]])
  (.cond (.t 25)
    (.pre [.keep []] (.seq (.r [.mv 4 (.c (.d (.b false)))])
    (.ret)))
    (.pre [.kill [25]] (.skip))))
  (.seq (.seq (.post (.r [.fa 26 (.t 2) 4,
    .ld 27 1 false (.t 26),
    .fa 28 (.t 3) 4,
    .ld 29 1 false (.t 28),
    .call 30 false (.c (.clo 43 [])) [(.t 27), (.t 29)],
    .not 31 (.t 30)]) [.keep [31]])
  (.cond (.t 31)
    (.pre [.keep []] (.seq (.r [.mv 4 (.c (.d (.b false)))])
    (.ret)))
    (.pre [.keep []] (.skip))))
  (.seq (.r [.mv 4 (.c (.d (.b true)))])
  (.ret)))))))⟩
/- loop.example/g00452/laws.eqLock -/
def m116 : Fn := ⟨2, [.t 4], false,
  .seq (.post (.r [.bx 2 (.t 0),
    .bx 3 (.t 1),
    .mv 4 (.c (.d (.b false)))]) [.keep [3, 2]])
  (.seq (.seq (.post (.r [.fa 5 (.t 2) 0,
    .ld 6 1 false (.t 5),
    .fa 7 (.t 3) 0,
    .ld 8 1 false (.t 7),
    .bin 9 .neq .num (.t 6) (.t 8)]) [.keep [9, 3, 2]])
  (.cond (.t 9)
    (.pre [.keep []] (.seq (.r [.mv 4 (.c (.d (.b false)))])
    (.ret)))
    (.pre [.kill [9]] (.skip))))
  (.seq (.seq (.post (.r [.fa 10 (.t 2) 1,
    .ld 11 1 false (.t 10),
    .fa 12 (.t 3) 1,
    .ld 13 1 false (.t 12),
    .call 14 false (.c (.clo 30 [])) [(.t 11), (.t 13)],
    .not 15 (.t 14)]) [.keep [15, 3, 2]])
  (.cond (.t 15)
    (.pre [.keep []] (.seq (.r [.mv 4 (.c (.d (.b false)))])
    (.ret)))
    (.pre [.kill [15]] (.skip))))
  (.seq (.seq (.post (.r [.fa 16 (.t 2) 2,
    .ld 17 1 false (.t 16),
    .fa 18 (.t 3) 2,
    .ld 19 1 false (.t 18),
    .bin 20 .neq .flag (.t 17) (.t 19)]) [.keep [20, 3, 2]])
  (.cond (.t 20)
    (.pre [.keep []] (.seq (.r [.mv 4 (.c (.d (.b false)))])
    (.ret)))
    (.pre [.kill [20]] (.skip))))
  (.seq (.seq (.post (.r [.fa 21 (.t 2) 3,
    .ld 22 1 false (.t 21),
    .fa 23 (.t 3) 3,
    .ld 24 1 false (.t 23),
    .bin 25 .neq .flag (.t 22) (.t 24)]) [.keep [25, 3, 2]])
  (.cond (.t 25)
    (.pre [.keep []] (.seq (.r [.mv 4 (.c (.d (.b false)))])
    (.ret)))
    (.pre [.kill [25]] (.skip))))
  (.seq (.seq (.post (.r [.fa 26 (.t 2) 4,
    .ld 27 1 false (.t 26),
    .fa 28 (.t 3) 4,
    .ld 29 1 false (.t 28),
    .bin 30 .neq .num (.t 27) (.t 29)]) [.keep [30]])
  (.cond (.t 30)
    (.pre [.keep []] (.seq (.r [.mv 4 (.c (.d (.b false)))])
    (.ret)))
    (.pre [.keep []] (.skip))))
  (.seq (.r [.mv 4 (.c (.d (.b true)))])
  (.ret)))))))⟩

def tabL : List (Nat × Fn) := [(4, m4), (13, m13), (14, m14), (15, m15), (16, m16), (17, m17), (24, m24), (27, m27), (30, m30), (36, m36), (39, m39), (43, m43), (55, m55), (56, m56), (57, m57), (58, m58), (59, m59), (60, m60), (61, m61), (62, m62), (63, m63), (64, m64), (65, m65), (93, m93), (96, m96), (101, m101), (109, m109), (110, m110), (111, m111), (112, m112), (113, m113), (114, m114), (115, m115), (116, m116)]
end Go.Proofs.YtmccpbabpnffcaaK
