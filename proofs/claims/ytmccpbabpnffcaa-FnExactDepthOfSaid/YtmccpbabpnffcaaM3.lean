import Derived.Test.YtmccpbabpnffcaaK22
import Derived.Test.YtmccpbabpnffcaaProg
import Derived.KernelRfl
set_option linter.unusedVariables false
set_option linter.unusedSimpArgs false
namespace Go.Proofs.YtmccpbabpnffcaaK
open Go.RowKit
/- loop.example/g00452/laws.FnExactDepthOf -/
def m3 : Fn := ⟨2, [.t 4], false,
  .seq (.post (.r [.bx 2 (.t 0),
    .mv 4 (.c (.d (.b false)))]) [.kill [0, 4]])
  (.seq (.r [.mv 5 (.c (.d (.i .i64 1048576)))])
  (.seq (.post (.r [.ld 9 4 true (.t 2),
    .mv 10 (.t 5),
    .call 11 false (.c (.clo 8 [])) [(.t 9), (.t 10)],
    .mv 5 (.t 11)]) [.kill [9, 10, 11]])
  (.seq (.seq (.post (.r [.mv 12 (.t 5),
    .bin 13 .lss .num (.t 12) (.c (.d (.i .i64 0)))]) [.kill [5, 12]])
  (.cond (.t 13)
    (.pre [.kill [1, 2, 13]] (.seq (.r [.mv 4 (.c (.d (.b true)))])
    (.ret)))
    (.pre [.kill [13]] (.skip))))
  (.seq (.post (.r [.ld 14 4 true (.t 2),
    .call 15 false (.c (.clo 10 [])) [(.t 14)],
    .mv 16 (.t 1),
    .call 17 false (.c (.clo 9 [])) [(.t 15), (.t 16)],
    .mv 6 (.t 17)]) [.kill [14, 15, 16, 17]])
  (.seq (.post (.r [.ld 18 4 true (.t 2),
    .call 19 false (.c (.clo 10 [])) [(.t 18)],
    .al 7 [.d (.s []), .d (.s []), .nil, .d (.s [])],
    .st 4 (.t 7) (.t 19)]) [.kill [18, 19]])
  (.seq (.post (.r [.ld 20 4 true (.t 7),
    .mv 21 (.t 1),
    .call 22 false (.c (.clo 11 [])) [(.t 20), (.t 21)],
    .mv 8 (.t 22)]) [.kill [1, 20, 21, 22]])
  (.seq (.seq (.post (.r [.mv 23 (.t 8),
    .mv 24 (.t 6),
    .bin 25 .neq .num (.t 23) (.t 24)]) [.kill [6, 8, 23, 24]])
  (.cond (.t 25)
    (.pre [.kill [2, 7, 25]] (.seq (.r [.mv 4 (.c (.d (.b false)))])
    (.ret)))
    (.pre [.kill [25]] (.skip))))
  (.seq (.seq (.post (.r [.ld 26 4 true (.t 7),
    .ld 27 4 true (.t 2),
    .call 28 false (.c (.clo 10 [])) [(.t 27)],
    .call 29 false (.c (.clo 12 [])) [(.t 26), (.t 28)],
    .not 30 (.t 29)]) [.kill [2, 7, 26, 27, 28, 29]])
  (.cond (.t 30)
    (.pre [.kill [30]] (.seq (.r [.mv 4 (.c (.d (.b false)))])
    (.ret)))
    (.pre [.kill [30]] (.skip))))
  (.seq (.r [.mv 4 (.c (.d (.b true)))])
  (.ret))))))))))⟩
/- loop.example/g00452/laws.szReq -/
def m8 : Fn := ⟨2, [.t 4], false,
  .seq (.post (.r [.bx 2 (.t 0),
    .mv 4 (.c (.d (.i .i64 0)))]) [.kill [0, 4]])
  (.seq (.post (.r [.mv 5 (.t 1),
    .fa 6 (.t 2) 0,
    .ld 7 1 false (.t 6),
    .lns 8 (.t 7),
    .bin 9 .sub .num (.t 5) (.t 8),
    .mv 1 (.t 9)]) [.kill [5, 6, 7, 8, 9]])
  (.seq (.seq (.post (.r [.mv 10 (.t 1),
    .bin 11 .lss .num (.t 10) (.c (.d (.i .i64 0)))]) [.kill [10]])
  (.cond (.t 11)
    (.pre [.kill [1, 2, 11]] (.seq (.r [.mv 4 (.c (.d (.i .i64 (-1))))])
    (.ret)))
    (.pre [.kill [11]] (.skip))))
  (.seq (.post (.r [.mv 12 (.t 1),
    .fa 13 (.t 2) 1,
    .ld 14 1 false (.t 13),
    .lns 15 (.t 14),
    .bin 16 .sub .num (.t 12) (.t 15),
    .mv 1 (.t 16)]) [.kill [12, 13, 14, 15, 16]])
  (.seq (.seq (.post (.r [.mv 17 (.t 1),
    .bin 18 .lss .num (.t 17) (.c (.d (.i .i64 0)))]) [.kill [17]])
  (.cond (.t 18)
    (.pre [.kill [1, 2, 18]] (.seq (.r [.mv 4 (.c (.d (.i .i64 (-1))))])
    (.ret)))
    (.pre [.kill [18]] (.skip))))
  (.seq (.post (.r [.fa 19 (.t 2) 2,
    .ld 20 1 false (.t 19),
    .mv 21 (.t 1),
    .call 22 false (.c (.clo 48 [])) [(.t 20), (.t 21)],
    .mv 1 (.t 22)]) [.kill [19, 20, 21, 22]])
  (.seq (.seq (.post (.r [.mv 23 (.t 1),
    .bin 24 .lss .num (.t 23) (.c (.d (.i .i64 0)))]) [.kill [23]])
  (.cond (.t 24)
    (.pre [.kill [1, 2, 24]] (.seq (.r [.mv 4 (.c (.d (.i .i64 (-1))))])
    (.ret)))
    (.pre [.kill [24]] (.skip))))
  (.seq (.post (.r [.mv 25 (.t 1),
    .fa 26 (.t 2) 3,
    .ld 27 1 false (.t 26),
    .lns 28 (.t 27),
    .bin 29 .sub .num (.t 25) (.t 28),
    .mv 1 (.t 29)]) [.kill [2, 25, 26, 27, 28, 29]])
  (.seq (.seq (.post (.r [.mv 30 (.t 1),
    .bin 31 .lss .num (.t 30) (.c (.d (.i .i64 0)))]) [.kill [30]])
  (.cond (.t 31)
    (.pre [.kill [1, 31]] (.seq (.r [.mv 4 (.c (.d (.i .i64 (-1))))])
    (.ret)))
    (.pre [.kill [31]] (.skip))))
  (.seq (.post (.r [.mv 32 (.t 1),
    .mv 4 (.t 32)]) [.kill [1, 32]])
  (.ret))))))))))⟩
/- loop.example/g00452/spec.DepthOf -/
def m9 : Fn := ⟨2, [.t 4], false,
  .seq (.post (.r [.bx 2 (.t 0),
    .mv 4 (.c (.d (.i .i64 0)))]) [.kill [0, 4]])
  (.seq (.post (.r [.fa 8 (.t 2) 2,
    .ld 9 1 false (.t 8),
    .call 10 false (.c (.clo 49 [])) [(.t 9), (.c (.d (.s [100, 101, 112, 116, 104])))],
    .mv 7 (.t 10),
    .ext 11 (.t 7) 0,
    .ext 12 (.t 7) 1,
    .mv 5 (.t 11),
    .mv 6 (.t 12)]) [.kill [2, 7, 8, 9, 10, 11, 12]])
  (.seq (.seq (.post (.r [.mv 13 (.t 6),
    .not 14 (.t 13)]) [.kill [6, 13]])
  (.cond (.t 14)
    (.pre [.kill [5, 14]] (.seq (.post (.r [.mv 15 (.t 1),
      .mv 4 (.t 15)]) [.kill [1, 15]])
    (.ret)))
    (.pre [.kill [1, 14]] (.skip))))
  (.seq (.seq (.post (.r [.mv 16 (.t 5),
    .call 17 false (.c (.clo 50 [])) [(.t 16)]]) [.kill [5, 16]])
  (.blk 0 (.seq (.post (.r [.bin 19 .eql .num (.t 17) (.c (.d (.s [48]))),
    .mv 18 (.t 19)]) [.kill [19]])
  (.cond (.t 18)
    (.pre [.kill [17, 18]] (.seq (.r [.mv 4 (.c (.d (.i .i64 0)))])
    (.ret)))
    (.pre [.kill [18]] (.seq (.post (.r [.bin 21 .eql .num (.t 17) (.c (.d (.s [49]))),
      .mv 20 (.t 21)]) [.kill [21]])
    (.cond (.t 20)
      (.pre [.kill [17, 20]] (.seq (.r [.mv 4 (.c (.d (.i .i64 1)))])
      (.ret)))
      (.pre [.kill [20]] (.seq (.post (.r [.bin 23 .eql .num (.t 17) (.c (.d (.s [105, 110, 102, 105, 110, 105, 116, 121]))),
        .mv 22 (.t 23)]) [.kill [17, 23]])
      (.cond (.t 22)
        (.pre [.kill [22]] (.seq (.r [.mv 4 (.c (.d (.i .i64 2)))])
        (.ret)))
        (.pre [.kill [22]] (.skip))))))))))))
  (.seq (.r [.mv 4 (.c (.d (.i .i64 (-1))))])
  (.ret)))))⟩
/- loop.example/g00452/laws.toReq -/
def m10 : Fn := ⟨1, [.cell 2 4 true], false,
  .seq (.post (.r [.bx 1 (.t 0),
    .al 2 [.d (.s []), .d (.s []), .nil, .d (.s [])]]) [.kill [0]])
  (.seq (.r [.al 3 [.d (.s []), .d (.s []), .nil, .d (.s [])]])
  (.seq (.post (.r [.fa 4 (.t 1) 0,
    .ld 5 1 false (.t 4),
    .fa 6 (.t 3) 0,
    .st 1 (.t 6) (.t 5)]) [.kill [4, 5, 6]])
  (.seq (.post (.r [.fa 7 (.t 1) 1,
    .ld 8 1 false (.t 7),
    .fa 9 (.t 3) 1,
    .st 1 (.t 9) (.t 8)]) [.kill [7, 8, 9]])
  (.seq (.post (.r [.fa 10 (.t 1) 2,
    .ld 11 1 false (.t 10),
    .call 12 false (.c (.clo 51 [])) [(.t 11)],
    .fa 13 (.t 3) 2,
    .st 1 (.t 13) (.t 12)]) [.kill [10, 11, 12, 13]])
  (.seq (.post (.r [.fa 14 (.t 1) 3,
    .ld 15 1 false (.t 14),
    .fa 16 (.t 3) 3,
    .st 1 (.t 16) (.t 15)]) [.kill [1, 14, 15, 16]])
  (.seq (.post (.r [.ld 17 4 true (.t 3),
    .st 4 (.t 2) (.t 17)]) [.kill [3, 17]])
  (.ret)))))))⟩
/- loop.example/g00452/impl.DepthOf -/
def m11 : Fn := ⟨2, [.t 4], false,
  .seq (.post (.r [.bx 2 (.t 0),
    .mv 4 (.c (.d (.i .i64 0)))]) [.kill [0, 4]])
  (.seq (.post (.r [.fa 8 (.t 2) 2,
    .ld 9 1 false (.t 8),
    .call 10 false (.c (.clo 52 [])) [(.t 9), (.c (.d (.s [100, 101, 112, 116, 104])))],
    .mv 7 (.t 10),
    .ext 11 (.t 7) 0,
    .ext 12 (.t 7) 1,
    .mv 5 (.t 11),
    .mv 6 (.t 12)]) [.kill [2, 7, 8, 9, 10, 11, 12]])
  (.seq (.blk 0 (.seq (.post (.r [.mv 14 (.t 6),
    .not 15 (.t 14),
    .mv 13 (.t 15)]) [.kill [6, 14, 15]])
  (.cond (.t 13)
    (.pre [.kill [5, 13]] (.seq (.post (.r [.mv 16 (.t 1),
      .mv 4 (.t 16)]) [.kill [1, 16]])
    (.ret)))
    (.pre [.kill [1, 13]] (.seq (.post (.r [.mv 18 (.t 5),
      .bin 19 .eql .num (.t 18) (.c (.d (.s [48]))),
      .mv 17 (.t 19)]) [.kill [18, 19]])
    (.cond (.t 17)
      (.pre [.kill [5, 17]] (.seq (.r [.mv 4 (.c (.d (.i .i64 0)))])
      (.ret)))
      (.pre [.kill [17]] (.seq (.post (.r [.mv 21 (.t 5),
        .bin 22 .eql .num (.t 21) (.c (.d (.s [49]))),
        .mv 20 (.t 22)]) [.kill [21, 22]])
      (.cond (.t 20)
        (.pre [.kill [5, 20]] (.seq (.r [.mv 4 (.c (.d (.i .i64 1)))])
        (.ret)))
        (.pre [.kill [20]] (.seq (.post (.r [.mv 24 (.t 5),
          .call 25 false (.c (.clo 53 [])) [(.t 24)],
          .bin 26 .eql .num (.t 25) (.c (.d (.s [105, 110, 102, 105, 110, 105, 116, 121]))),
          .mv 23 (.t 26)]) [.kill [5, 24, 25, 26]])
        (.cond (.t 23)
          (.pre [.kill [23]] (.seq (.r [.mv 4 (.c (.d (.i .i64 2)))])
          (.ret)))
          (.pre [.kill [23]] (.skip))))))))))))))
  (.seq (.r [.mv 4 (.c (.d (.i .i64 (-1))))])
  (.ret))))⟩
/- loop.example/g00452/laws.eqReq -/
def m12 : Fn := ⟨2, [.t 4], false,
  .seq (.post (.r [.bx 2 (.t 0),
    .bx 3 (.t 1),
    .mv 4 (.c (.d (.b false)))]) [.kill [0, 1, 4]])
  (.seq (.seq (.post (.r [.fa 5 (.t 2) 0,
    .ld 6 1 false (.t 5),
    .fa 7 (.t 3) 0,
    .ld 8 1 false (.t 7),
    .bin 9 .neq .num (.t 6) (.t 8)]) [.kill [5, 6, 7, 8]])
  (.cond (.t 9)
    (.pre [.kill [2, 3, 9]] (.seq (.r [.mv 4 (.c (.d (.b false)))])
    (.ret)))
    (.pre [.kill [9]] (.skip))))
  (.seq (.seq (.post (.r [.fa 10 (.t 2) 1,
    .ld 11 1 false (.t 10),
    .fa 12 (.t 3) 1,
    .ld 13 1 false (.t 12),
    .bin 14 .neq .num (.t 11) (.t 13)]) [.kill [10, 11, 12, 13]])
  (.cond (.t 14)
    (.pre [.kill [2, 3, 14]] (.seq (.r [.mv 4 (.c (.d (.b false)))])
    (.ret)))
    (.pre [.kill [14]] (.skip))))
  (.seq (.seq (.post (.r [.fa 15 (.t 2) 2,
    .ld 16 1 false (.t 15),
    .fa 17 (.t 3) 2,
    .ld 18 1 false (.t 17),
    .call 19 false (.c (.clo 54 [])) [(.t 16), (.t 18)],
    .not 20 (.t 19)]) [.kill [15, 16, 17, 18, 19]])
  (.cond (.t 20)
    (.pre [.kill [2, 3, 20]] (.seq (.r [.mv 4 (.c (.d (.b false)))])
    (.ret)))
    (.pre [.kill [20]] (.skip))))
  (.seq (.seq (.post (.r [.fa 21 (.t 2) 3,
    .ld 22 1 false (.t 21),
    .fa 23 (.t 3) 3,
    .ld 24 1 false (.t 23),
    .bin 25 .neq .num (.t 22) (.t 24)]) [.kill [2, 3, 21, 22, 23, 24]])
  (.cond (.t 25)
    (.pre [.kill [25]] (.seq (.r [.mv 4 (.c (.d (.b false)))])
    (.ret)))
    (.pre [.kill [25]] (.skip))))
  (.seq (.r [.mv 4 (.c (.d (.b true)))])
  (.ret))))))⟩
/- loop.example/g00452/laws.szHeadS -/
/-- live: [0, 1, 5]; objects: [] -/
def m48l0 : C := .post
  (.seq (.seq (.post (.r [.mv 12 (.t 5),
      .mv 13 (.t 0),
      .len 14 (.t 13),
      .bin 15 .lss .num (.t 12) (.t 14)]) [.kill [12, 13, 14]])
    (.cond (.t 15)
      (.pre [.kill [15]] (.skip))
      (.pre [.kill [0, 5, 15]] (.ex 0))))
    (.seq (.blk 1 (.seq (.post (.r [.mv 18 (.t 0),
      .mv 19 (.t 5),
      .ia 20 2 (.t 18) (.t 19),
      .ld 21 2 true (.t 20),
      .mv 22 (.t 1),
      .call 23 false (.c (.clo 104 [])) [(.t 21), (.t 22)],
      .mv 1 (.t 23)]) [.kill [18, 19, 20, 21, 22, 23]])
    (.seq (.post (.r [.mv 24 (.t 1),
      .bin 25 .lss .num (.t 24) (.c (.d (.i .i64 0)))]) [.kill [24]])
    (.cond (.t 25)
      (.pre [.kill [0, 1, 5, 25]] (.seq (.r [.mv 4 (.c (.d (.i .i64 (-1))))])
      (.ret)))
      (.pre [.kill [25]] (.skip))))))
    (.post (.r [.mv 16 (.t 5),
      .bin 17 .add .num (.t 16) (.c (.d (.i .i64 1))),
      .mv 5 (.t 17)]) [.kill [16, 17]])))
  [.kill [4, 12, 13, 14, 15, 16, 17, 18, 19, 20, 21, 22, 23, 24, 25]]
def m48 : Fn := ⟨2, [.t 4], false,
  .seq (.post (.r [.mv 4 (.c (.d (.i .i64 0)))]) [.kill [4]])
  (.seq (.post (.r [.mv 6 (.t 1),
    .mv 7 (.t 0),
    .len 8 (.t 7),
    .bin 9 .sub .num (.t 6) (.t 8),
    .mv 1 (.t 9)]) [.kill [6, 7, 8, 9]])
  (.seq (.seq (.post (.r [.mv 10 (.t 1),
    .bin 11 .lss .num (.t 10) (.c (.d (.i .i64 0)))]) [.kill [10]])
  (.cond (.t 11)
    (.pre [.kill [0, 1, 11]] (.seq (.r [.mv 4 (.c (.d (.i .i64 (-1))))])
    (.ret)))
    (.pre [.kill [11]] (.skip))))
  (.seq (.seq (.r [.mv 5 (.c (.d (.i .i64 0)))])
  (.blk 0 (.pre [.kill [4, 6, 7, 8, 9, 10, 11, 12, 13, 14, 15, 16, 17, 18, 19, 20, 21, 22, 23, 24, 25, 26]] (.loop m48l0))))
  (.seq (.post (.r [.mv 26 (.t 1),
    .mv 4 (.t 26)]) [.kill [1, 26]])
  (.ret)))))⟩
/- loop.example/g00452/spec.HeadOf -/
/-- live: [0, 1, 6]; objects: [] -/
def m49l0 : C := .post
  (.seq (.seq (.post (.r [.mv 7 (.t 6),
      .mv 8 (.t 0),
      .len 9 (.t 8),
      .bin 10 .lss .num (.t 7) (.t 9)]) [.kill [7, 8, 9]])
    (.cond (.t 10)
      (.pre [.kill [10]] (.skip))
      (.pre [.kill [0, 1, 6, 10]] (.ex 0))))
    (.seq (.blk 1 (.seq (.post (.r [.mv 13 (.t 0),
      .mv 14 (.t 6),
      .ia 15 2 (.t 13) (.t 14),
      .fa 16 (.t 15) 0,
      .ld 17 1 false (.t 16),
      .mv 18 (.t 1),
      .bin 19 .eql .num (.t 17) (.t 18)]) [.kill [13, 14, 15, 16, 17, 18]])
    (.cond (.t 19)
      (.pre [.kill [1, 19]] (.seq (.post (.r [.mv 20 (.t 0),
        .mv 21 (.t 6),
        .ia 22 2 (.t 20) (.t 21),
        .fa 23 (.t 22) 1,
        .ld 24 1 false (.t 23),
        .mv 4 (.t 24),
        .mv 5 (.c (.d (.b true)))]) [.kill [0, 6, 20, 21, 22, 23, 24]])
      (.ret)))
      (.pre [.kill [19]] (.skip)))))
    (.post (.r [.mv 11 (.t 6),
      .bin 12 .add .num (.t 11) (.c (.d (.i .i64 1))),
      .mv 6 (.t 12)]) [.kill [11, 12]])))
  [.kill [4, 5, 7, 8, 9, 10, 11, 12, 13, 14, 15, 16, 17, 18, 19, 20, 21, 22, 23, 24]]
def m49 : Fn := ⟨2, [.t 4, .t 5], false,
  .seq (.post (.r [.mv 4 (.c (.d (.s []))),
    .mv 5 (.c (.d (.b false)))]) [.kill [4, 5]])
  (.seq (.seq (.r [.mv 6 (.c (.d (.i .i64 0)))])
  (.blk 0 (.pre [.kill [4, 5, 7, 8, 9, 10, 11, 12, 13, 14, 15, 16, 17, 18, 19, 20, 21, 22, 23, 24]] (.loop m49l0))))
  (.seq (.r [.mv 4 (.c (.d (.s []))),
    .mv 5 (.c (.d (.b false)))])
  (.ret)))⟩
/- loop.example/g00452/spec.Lower -/
/-- live: [0, 3, 4]; objects: [6, 23] -/
def m50l0 : C := .post
  (.seq (.seq (.post (.r [.mv 7 (.t 4),
      .mv 8 (.t 0),
      .lns 9 (.t 8),
      .bin 10 .lss .num (.t 7) (.t 9)]) [.kill [7, 8, 9]])
    (.cond (.t 10)
      (.pre [.kill [10]] (.skip))
      (.pre [.kill [0, 4, 10]] (.ex 0))))
    (.seq (.blk 1 (.seq (.post (.r [.mv 13 (.t 0),
      .mv 14 (.t 4),
      .ix 15 (.t 13) (.t 14),
      .mv 5 (.t 15)]) [.kill [13, 14, 15]])
    (.seq (.seq (.post (.r [.mv 16 (.t 5),
      .call 17 false (.c (.clo 105 [])) [(.t 16)]]) [.kill [16]])
    (.cond (.t 17)
      (.pre [.kill [17]] (.post (.r [.mv 18 (.t 5),
        .bin 19 .add .num (.t 18) (.c (.d (.i .u8 32))),
        .mv 5 (.t 19)]) [.kill [18, 19]]))
      (.pre [.kill [17]] (.skip))))
    (.post (.r [.mv 20 (.t 3),
      .mv 21 (.t 5),
      .bs 22 1 1 [.d (.i .u8 0)] [(0, (.t 21))],
      .app 23 1 1 (.t 20) (.t 22),
      .mv 3 (.t 23)]) [.kill [5, 20, 21, 22, 23]]))))
    (.post (.r [.mv 11 (.t 4),
      .bin 12 .add .num (.t 11) (.c (.d (.i .i64 1))),
      .mv 4 (.t 12)]) [.kill [11, 12]])))
  [.kill [5, 7, 8, 9, 10, 11, 12, 13, 14, 15, 16, 17, 18, 19, 20, 21, 22, 23], .drop [22]]
def m50 : Fn := ⟨1, [.t 2], false,
  .seq (.post (.r [.mv 2 (.c (.d (.s [])))]) [.kill [2]])
  (.seq (.post (.r [.bs 6 1 0 [.d (.i .u8 0)] [],
    .mv 3 (.t 6)]) [.kill [6]])
  (.seq (.seq (.r [.mv 4 (.c (.d (.i .i64 0)))])
  (.blk 0 (.pre [.kill [2, 5, 6, 7, 8, 9, 10, 11, 12, 13, 14, 15, 16, 17, 18, 19, 20, 21, 22, 23, 24, 25]] (.loop m50l0))))
  (.seq (.post (.r [.mv 24 (.t 3),
    .b2s 25 (.t 24),
    .mv 2 (.t 25)]) [.kill [3, 24, 25]])
  (.ret))))⟩
/- loop.example/g00452/laws.toHeadS -/
/-- live: [0, 3, 4]; objects: [7] -/
def m51l0 : C := .post
  (.seq (.seq (.post (.r [.mv 8 (.t 4),
      .mv 9 (.t 0),
      .len 10 (.t 9),
      .bin 11 .lss .num (.t 8) (.t 10)]) [.kill [8, 9, 10]])
    (.cond (.t 11)
      (.pre [.kill [11]] (.skip))
      (.pre [.kill [0, 4, 11]] (.ex 0))))
    (.seq (.blk 1 (.post (.r [.mv 14 (.t 3),
      .mv 15 (.t 4),
      .mv 16 (.t 0),
      .mv 17 (.t 4),
      .ia 18 2 (.t 16) (.t 17),
      .ld 19 2 true (.t 18),
      .call 20 false (.c (.clo 106 [])) [(.t 19)],
      .ia 21 2 (.t 14) (.t 15),
      .st 2 (.t 21) (.t 20)]) [.kill [14, 15, 16, 17, 18, 19, 20, 21]]))
    (.post (.r [.mv 12 (.t 4),
      .bin 13 .add .num (.t 12) (.c (.d (.i .i64 1))),
      .mv 4 (.t 13)]) [.kill [12, 13]])))
  [.kill [8, 9, 10, 11, 12, 13, 14, 15, 16, 17, 18, 19, 20, 21]]
def m51 : Fn := ⟨1, [.t 2], false,
  .seq (.post (.r [.mv 2 (.c .nil)]) [.kill [2]])
  (.seq (.post (.r [.mv 5 (.t 0),
    .len 6 (.t 5),
    .mk 7 2 32 [.d (.s []), .d (.s [])] (.t 6),
    .mv 3 (.t 7)]) [.kill [5, 6, 7]])
  (.seq (.seq (.r [.mv 4 (.c (.d (.i .i64 0)))])
  (.blk 0 (.pre [.kill [2, 5, 6, 7, 8, 9, 10, 11, 12, 13, 14, 15, 16, 17, 18, 19, 20, 21, 22]] (.loop m51l0))))
  (.seq (.post (.r [.mv 22 (.t 3),
    .mv 2 (.t 22)]) [.kill [3, 22]])
  (.ret))))⟩
/- loop.example/g00452/impl.HeadOf -/
/-- live: [1, 8, 9, 10]; objects: [] -/
def m52l0 : C := .post
  (.seq (.r [.bin 11 .lss .num (.t 10) (.t 9)])
    (.seq (.cond (.t 11)
      (.pre [.kill [11]] (.skip))
      (.pre [.kill [1, 8, 9, 10, 11]] (.ex 0)))
    (.seq (.blk 1 (.seq (.post (.r [.ia 12 2 (.t 8) (.t 10),
      .ld 13 2 true (.t 12),
      .al 7 [.d (.s []), .d (.s [])],
      .st 2 (.t 7) (.t 13)]) [.kill [12, 13]])
    (.seq (.post (.r [.fa 14 (.t 7) 0,
      .ld 15 1 false (.t 14),
      .mv 16 (.t 1),
      .bin 17 .eql .num (.t 15) (.t 16)]) [.kill [14, 15, 16]])
    (.cond (.t 17)
      (.pre [.kill [1, 8, 9, 10, 17]] (.seq (.post (.r [.fa 18 (.t 7) 1,
        .ld 19 1 false (.t 18),
        .mv 4 (.t 19),
        .mv 5 (.c (.d (.b true)))]) [.kill [7, 18, 19]])
      (.ret)))
      (.pre [.kill [7, 17]] (.skip))))))
    (.post (.r [.bin 20 .add .num (.t 10) (.c (.d (.i .i64 1))),
      .mv 10 (.t 20)]) [.kill [20]]))))
  [.kill [4, 5, 7, 11, 12, 13, 14, 15, 16, 17, 18, 19, 20], .drop [7]]
def m52 : Fn := ⟨2, [.t 4, .t 5], false,
  .seq (.post (.r [.mv 4 (.c (.d (.s []))),
    .mv 5 (.c (.d (.b false)))]) [.kill [4, 5]])
  (.seq (.seq (.post (.r [.mv 8 (.t 0),
    .len 9 (.t 8),
    .mv 10 (.c (.d (.i .i64 0)))]) [.kill [0]])
  (.blk 0 (.pre [.kill [0, 4, 5, 7, 11, 12, 13, 14, 15, 16, 17, 18, 19, 20]] (.loop m52l0))))
  (.seq (.r [.mv 4 (.c (.d (.s []))),
    .mv 5 (.c (.d (.b false)))])
  (.ret)))⟩
/- loop.example/g00452/impl.Lower -/
/-- live: [3, 8, 9, 10]; objects: [7] -/
def m53l0 : C := .post
  (.seq (.r [.bin 11 .lss .num (.t 10) (.t 9)])
    (.seq (.cond (.t 11)
      (.pre [.kill [11]] (.skip))
      (.pre [.kill [8, 9, 10, 11]] (.ex 0)))
    (.seq (.blk 1 (.seq (.post (.r [.mv 12 (.t 10),
      .ia 13 1 (.t 8) (.t 10),
      .ld 14 1 false (.t 13),
      .mv 4 (.t 12),
      .mv 5 (.t 14)]) [.kill [12, 13, 14]])
    (.seq (.post (.r [.mv 15 (.t 5),
      .call 16 false (.c (.clo 107 [])) [(.t 15)]]) [.kill [15]])
    (.cond (.t 16)
      (.pre [.kill [16]] (.post (.r [.mv 17 (.t 3),
        .mv 18 (.t 4),
        .mv 19 (.t 5),
        .bin 20 .add .num (.t 19) (.c (.d (.i .u8 32))),
        .ia 21 1 (.t 17) (.t 18),
        .st 1 (.t 21) (.t 20)]) [.kill [4, 5, 17, 18, 19, 20, 21]]))
      (.pre [.kill [4, 5, 16]] (.skip))))))
    (.post (.r [.bin 22 .add .num (.t 10) (.c (.d (.i .i64 1))),
      .mv 10 (.t 22)]) [.kill [22]]))))
  [.kill [4, 5, 11, 12, 13, 14, 15, 16, 17, 18, 19, 20, 21, 22]]
def m53 : Fn := ⟨1, [.t 2], false,
  .seq (.post (.r [.mv 2 (.c (.d (.s [])))]) [.kill [2]])
  (.seq (.post (.r [.mv 6 (.t 0),
    .s2b 7 (.t 6),
    .mv 3 (.t 7)]) [.kill [0, 6, 7]])
  (.seq (.seq (.r [.mv 8 (.t 3),
    .len 9 (.t 8),
    .mv 10 (.c (.d (.i .i64 0)))])
  (.blk 0 (.pre [.kill [0, 2, 4, 5, 6, 7, 11, 12, 13, 14, 15, 16, 17, 18, 19, 20, 21, 22, 23, 24]] (.loop m53l0))))
  (.seq (.post (.r [.mv 23 (.t 3),
    .b2s 24 (.t 23),
    .mv 2 (.t 24)]) [.kill [3, 23, 24]])
  (.ret))))⟩
/- loop.example/g00452/laws.eqHeadS -/
/-- live: [0, 1, 5]; objects: [] -/
def m54l0 : C := .post
  (.seq (.seq (.post (.r [.mv 11 (.t 5),
      .mv 12 (.t 0),
      .len 13 (.t 12),
      .bin 14 .lss .num (.t 11) (.t 13)]) [.kill [11, 12, 13]])
    (.cond (.t 14)
      (.pre [.kill [14]] (.skip))
      (.pre [.kill [0, 1, 5, 14]] (.ex 0))))
    (.seq (.blk 1 (.seq (.post (.r [.mv 17 (.t 0),
      .mv 18 (.t 5),
      .ia 19 2 (.t 17) (.t 18),
      .ld 20 2 true (.t 19),
      .mv 21 (.t 1),
      .mv 22 (.t 5),
      .ia 23 2 (.t 21) (.t 22),
      .ld 24 2 true (.t 23),
      .call 25 false (.c (.clo 108 [])) [(.t 20), (.t 24)],
      .not 26 (.t 25)]) [.kill [17, 18, 19, 20, 21, 22, 23, 24, 25]])
    (.cond (.t 26)
      (.pre [.kill [0, 1, 5, 26]] (.seq (.r [.mv 4 (.c (.d (.b false)))])
      (.ret)))
      (.pre [.kill [26]] (.skip)))))
    (.post (.r [.mv 15 (.t 5),
      .bin 16 .add .num (.t 15) (.c (.d (.i .i64 1))),
      .mv 5 (.t 16)]) [.kill [15, 16]])))
  [.kill [4, 11, 12, 13, 14, 15, 16, 17, 18, 19, 20, 21, 22, 23, 24, 25, 26]]
def m54 : Fn := ⟨2, [.t 4], false,
  .seq (.post (.r [.mv 4 (.c (.d (.b false)))]) [.kill [4]])
  (.seq (.seq (.post (.r [.mv 6 (.t 0),
    .len 7 (.t 6),
    .mv 8 (.t 1),
    .len 9 (.t 8),
    .bin 10 .neq .num (.t 7) (.t 9)]) [.kill [6, 7, 8, 9]])
  (.cond (.t 10)
    (.pre [.kill [0, 1, 10]] (.seq (.r [.mv 4 (.c (.d (.b false)))])
    (.ret)))
    (.pre [.kill [10]] (.skip))))
  (.seq (.seq (.r [.mv 5 (.c (.d (.i .i64 0)))])
  (.blk 0 (.pre [.kill [4, 6, 7, 8, 9, 10, 11, 12, 13, 14, 15, 16, 17, 18, 19, 20, 21, 22, 23, 24, 25, 26]] (.loop m54l0))))
  (.seq (.r [.mv 4 (.c (.d (.b true)))])
  (.ret))))⟩
/- loop.example/g00452/spec.l1In -/
def m66 : Fn := ⟨3, [.t 6], false,
  .seq (.post (.r [.mv 6 (.c (.d (.b false)))]) [.kill [6]])
  (.seq (.post (.r [.mv 7 (.t 0),
    .mv 8 (.t 1),
    .bin 9 .geq .num (.t 7) (.t 8),
    .mv 10 (.t 9),
    .gd 10 true (some 11) (.mv 11 (.t 0)),
    .gd 10 true (some 12) (.mv 12 (.t 2)),
    .gd 10 true (some 13) (.bin 13 .leq .num (.t 11) (.t 12)),
    .pick 14 (.t 10) (.t 13) (.c (.d (.b false))),
    .mv 6 (.t 14)]) [.kill [0, 1, 2, 7, 8, 9, 10, 11, 12, 13, 14]])
  (.ret))⟩
/- loop.example/g00452/laws.szHead -/
def m104 : Fn := ⟨2, [.t 4], false,
  .seq (.post (.r [.bx 2 (.t 0),
    .mv 4 (.c (.d (.i .i64 0)))]) [.kill [0, 4]])
  (.seq (.post (.r [.mv 5 (.t 1),
    .fa 6 (.t 2) 0,
    .ld 7 1 false (.t 6),
    .lns 8 (.t 7),
    .bin 9 .sub .num (.t 5) (.t 8),
    .mv 1 (.t 9)]) [.kill [5, 6, 7, 8, 9]])
  (.seq (.seq (.post (.r [.mv 10 (.t 1),
    .bin 11 .lss .num (.t 10) (.c (.d (.i .i64 0)))]) [.kill [10]])
  (.cond (.t 11)
    (.pre [.kill [1, 2, 11]] (.seq (.r [.mv 4 (.c (.d (.i .i64 (-1))))])
    (.ret)))
    (.pre [.kill [11]] (.skip))))
  (.seq (.post (.r [.mv 12 (.t 1),
    .fa 13 (.t 2) 1,
    .ld 14 1 false (.t 13),
    .lns 15 (.t 14),
    .bin 16 .sub .num (.t 12) (.t 15),
    .mv 1 (.t 16)]) [.kill [2, 12, 13, 14, 15, 16]])
  (.seq (.seq (.post (.r [.mv 17 (.t 1),
    .bin 18 .lss .num (.t 17) (.c (.d (.i .i64 0)))]) [.kill [17]])
  (.cond (.t 18)
    (.pre [.kill [1, 18]] (.seq (.r [.mv 4 (.c (.d (.i .i64 (-1))))])
    (.ret)))
    (.pre [.kill [18]] (.skip))))
  (.seq (.post (.r [.mv 19 (.t 1),
    .mv 4 (.t 19)]) [.kill [1, 19]])
  (.ret))))))⟩
/- loop.example/g00452/spec.l1Large -/
def m105 : Fn := ⟨1, [.t 2], false,
  .seq (.post (.r [.mv 2 (.c (.d (.b false)))]) [.kill [2]])
  (.seq (.post (.r [.mv 3 (.t 0),
    .cvi 4 .i64 (.t 3),
    .call 5 false (.c (.clo 66 [])) [(.t 4), (.c (.d (.i .i64 65))), (.c (.d (.i .i64 90)))],
    .mv 2 (.t 5)]) [.kill [0, 3, 4, 5]])
  (.ret))⟩
/- loop.example/g00452/laws.toHead -/
def m106 : Fn := ⟨1, [.cell 2 2 true], false,
  .seq (.post (.r [.bx 1 (.t 0),
    .al 2 [.d (.s []), .d (.s [])]]) [.kill [0]])
  (.seq (.r [.al 3 [.d (.s []), .d (.s [])]])
  (.seq (.post (.r [.fa 4 (.t 1) 0,
    .ld 5 1 false (.t 4),
    .fa 6 (.t 3) 0,
    .st 1 (.t 6) (.t 5)]) [.kill [4, 5, 6]])
  (.seq (.post (.r [.fa 7 (.t 1) 1,
    .ld 8 1 false (.t 7),
    .fa 9 (.t 3) 1,
    .st 1 (.t 9) (.t 8)]) [.kill [1, 7, 8, 9]])
  (.seq (.post (.r [.ld 10 2 true (.t 3),
    .st 2 (.t 2) (.t 10)]) [.kill [3, 10]])
  (.ret)))))⟩
/- loop.example/g00452/impl.isLarge -/
def m107 : Fn := ⟨1, [.t 2], false,
  .seq (.post (.r [.mv 2 (.c (.d (.b false)))]) [.kill [2]])
  (.seq (.post (.r [.mv 3 (.t 0),
    .bin 4 .geq .num (.t 3) (.c (.d (.i .u8 65))),
    .mv 5 (.t 4),
    .gd 5 true (some 6) (.mv 6 (.t 0)),
    .gd 5 true (some 7) (.bin 7 .leq .num (.t 6) (.c (.d (.i .u8 90)))),
    .pick 8 (.t 5) (.t 7) (.c (.d (.b false))),
    .mv 2 (.t 8)]) [.kill [0, 3, 4, 5, 6, 7, 8]])
  (.ret))⟩
/- loop.example/g00452/laws.eqHead -/
def m108 : Fn := ⟨2, [.t 4], false,
  .seq (.post (.r [.bx 2 (.t 0),
    .bx 3 (.t 1),
    .mv 4 (.c (.d (.b false)))]) [.kill [0, 1, 4]])
  (.seq (.seq (.post (.r [.fa 5 (.t 2) 0,
    .ld 6 1 false (.t 5),
    .fa 7 (.t 3) 0,
    .ld 8 1 false (.t 7),
    .bin 9 .neq .num (.t 6) (.t 8)]) [.kill [5, 6, 7, 8]])
  (.cond (.t 9)
    (.pre [.kill [2, 3, 9]] (.seq (.r [.mv 4 (.c (.d (.b false)))])
    (.ret)))
    (.pre [.kill [9]] (.skip))))
  (.seq (.seq (.post (.r [.fa 10 (.t 2) 1,
    .ld 11 1 false (.t 10),
    .fa 12 (.t 3) 1,
    .ld 13 1 false (.t 12),
    .bin 14 .neq .num (.t 11) (.t 13)]) [.kill [2, 3, 10, 11, 12, 13]])
  (.cond (.t 14)
    (.pre [.kill [14]] (.seq (.r [.mv 4 (.c (.d (.b false)))])
    (.ret)))
    (.pre [.kill [14]] (.skip))))
  (.seq (.r [.mv 4 (.c (.d (.b true)))])
  (.ret))))⟩

def tabL : List (Nat × Fn) := [(3, m3), (8, m8), (9, m9), (10, m10), (11, m11), (12, m12), (48, m48), (49, m49), (50, m50), (51, m51), (52, m52), (53, m53), (54, m54), (66, m66), (104, m104), (105, m105), (106, m106), (107, m107), (108, m108)]
end Go.Proofs.YtmccpbabpnffcaaK
