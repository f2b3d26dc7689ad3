/- The small machine's code of this seat's functions, printed by a program (Gen.lean). No statement of this seat is proved here. -/
import Derived.Test.YthdlkpmhjbaplaaDxA
set_option autoImplicit false
set_option maxRecDepth 100000
noncomputable section
namespace Go.Proofs.Ythdlkpmhjbaplaa.Dx
open Go

abbrev p0 : P := .z
abbrev t0 : Opd := .t p0
abbrev p1 : P := (.l .z)
abbrev t1 : Opd := .t p1
abbrev p2 : P := (.r .z)
abbrev t2 : Opd := .t p2
abbrev p3 : P := (.l (.l .z))
abbrev t3 : Opd := .t p3
abbrev p4 : P := (.r (.l .z))
abbrev t4 : Opd := .t p4
abbrev p5 : P := (.l (.r .z))
abbrev t5 : Opd := .t p5
abbrev p6 : P := (.r (.r .z))
abbrev t6 : Opd := .t p6
abbrev p7 : P := (.l (.l (.l .z)))
abbrev t7 : Opd := .t p7
abbrev p8 : P := (.r (.l (.l .z)))
abbrev t8 : Opd := .t p8
abbrev p9 : P := (.l (.r (.l .z)))
abbrev t9 : Opd := .t p9
abbrev p10 : P := (.r (.r (.l .z)))
abbrev t10 : Opd := .t p10
abbrev p11 : P := (.l (.l (.r .z)))
abbrev t11 : Opd := .t p11
abbrev p12 : P := (.r (.l (.r .z)))
abbrev t12 : Opd := .t p12
abbrev p13 : P := (.l (.r (.r .z)))
abbrev t13 : Opd := .t p13
abbrev p14 : P := (.r (.r (.r .z)))
abbrev t14 : Opd := .t p14
abbrev p15 : P := (.l (.l (.l (.l .z))))
abbrev t15 : Opd := .t p15
abbrev p16 : P := (.r (.l (.l (.l .z))))
abbrev t16 : Opd := .t p16
abbrev p17 : P := (.l (.r (.l (.l .z))))
abbrev t17 : Opd := .t p17
abbrev p18 : P := (.r (.r (.l (.l .z))))
abbrev t18 : Opd := .t p18
abbrev p19 : P := (.l (.l (.r (.l .z))))
abbrev t19 : Opd := .t p19
abbrev p20 : P := (.r (.l (.r (.l .z))))
abbrev t20 : Opd := .t p20
abbrev p21 : P := (.l (.r (.r (.l .z))))
abbrev t21 : Opd := .t p21
abbrev p22 : P := (.r (.r (.r (.l .z))))
abbrev t22 : Opd := .t p22
abbrev p23 : P := (.l (.l (.l (.r .z))))
abbrev t23 : Opd := .t p23
abbrev p24 : P := (.r (.l (.l (.r .z))))
abbrev t24 : Opd := .t p24
abbrev p25 : P := (.l (.r (.l (.r .z))))
abbrev t25 : Opd := .t p25
abbrev p26 : P := (.r (.r (.l (.r .z))))
abbrev t26 : Opd := .t p26
abbrev p27 : P := (.l (.l (.r (.r .z))))
abbrev t27 : Opd := .t p27
abbrev p28 : P := (.r (.l (.r (.r .z))))
abbrev t28 : Opd := .t p28
abbrev p29 : P := (.l (.r (.r (.r .z))))
abbrev t29 : Opd := .t p29
abbrev p30 : P := (.r (.r (.r (.r .z))))
abbrev t30 : Opd := .t p30
abbrev p31 : P := (.l (.l (.l (.l (.l .z)))))
abbrev t31 : Opd := .t p31
abbrev p32 : P := (.r (.l (.l (.l (.l .z)))))
abbrev t32 : Opd := .t p32
abbrev p33 : P := (.l (.r (.l (.l (.l .z)))))
abbrev t33 : Opd := .t p33
abbrev p34 : P := (.r (.r (.l (.l (.l .z)))))
abbrev t34 : Opd := .t p34
abbrev p35 : P := (.l (.l (.r (.l (.l .z)))))
abbrev t35 : Opd := .t p35
abbrev p36 : P := (.r (.l (.r (.l (.l .z)))))
abbrev t36 : Opd := .t p36
abbrev p37 : P := (.l (.r (.r (.l (.l .z)))))
abbrev t37 : Opd := .t p37
abbrev p38 : P := (.r (.r (.r (.l (.l .z)))))
abbrev t38 : Opd := .t p38
abbrev p39 : P := (.l (.l (.l (.r (.l .z)))))
abbrev t39 : Opd := .t p39
abbrev p40 : P := (.r (.l (.l (.r (.l .z)))))
abbrev t40 : Opd := .t p40
abbrev p41 : P := (.l (.r (.l (.r (.l .z)))))
abbrev t41 : Opd := .t p41
abbrev p42 : P := (.r (.r (.l (.r (.l .z)))))
abbrev t42 : Opd := .t p42
abbrev p43 : P := (.l (.l (.r (.r (.l .z)))))
abbrev t43 : Opd := .t p43
abbrev p44 : P := (.r (.l (.r (.r (.l .z)))))
abbrev t44 : Opd := .t p44
abbrev p45 : P := (.l (.r (.r (.r (.l .z)))))
abbrev t45 : Opd := .t p45
abbrev p46 : P := (.r (.r (.r (.r (.l .z)))))
abbrev t46 : Opd := .t p46
abbrev p47 : P := (.l (.l (.l (.l (.r .z)))))
abbrev t47 : Opd := .t p47
abbrev p48 : P := (.r (.l (.l (.l (.r .z)))))
abbrev t48 : Opd := .t p48
abbrev p49 : P := (.l (.r (.l (.l (.r .z)))))
abbrev t49 : Opd := .t p49
abbrev p50 : P := (.r (.r (.l (.l (.r .z)))))
abbrev t50 : Opd := .t p50
abbrev p51 : P := (.l (.l (.r (.l (.r .z)))))
abbrev t51 : Opd := .t p51
abbrev p52 : P := (.r (.l (.r (.l (.r .z)))))
abbrev t52 : Opd := .t p52
abbrev p53 : P := (.l (.r (.r (.l (.r .z)))))
abbrev t53 : Opd := .t p53
abbrev p54 : P := (.r (.r (.r (.l (.r .z)))))
abbrev t54 : Opd := .t p54
abbrev p55 : P := (.l (.l (.l (.r (.r .z)))))
abbrev t55 : Opd := .t p55
abbrev p56 : P := (.r (.l (.l (.r (.r .z)))))
abbrev t56 : Opd := .t p56
abbrev p57 : P := (.l (.r (.l (.r (.r .z)))))
abbrev t57 : Opd := .t p57
abbrev p58 : P := (.r (.r (.l (.r (.r .z)))))
abbrev t58 : Opd := .t p58
abbrev p59 : P := (.l (.l (.r (.r (.r .z)))))
abbrev t59 : Opd := .t p59
abbrev p60 : P := (.r (.l (.r (.r (.r .z)))))
abbrev t60 : Opd := .t p60
abbrev p61 : P := (.l (.r (.r (.r (.r .z)))))
abbrev t61 : Opd := .t p61
abbrev p62 : P := (.r (.r (.r (.r (.r .z)))))
abbrev t62 : Opd := .t p62
abbrev p63 : P := (.l (.l (.l (.l (.l (.l .z))))))
abbrev t63 : Opd := .t p63
abbrev p64 : P := (.r (.l (.l (.l (.l (.l .z))))))
abbrev t64 : Opd := .t p64
abbrev p65 : P := (.l (.r (.l (.l (.l (.l .z))))))
abbrev t65 : Opd := .t p65
abbrev p66 : P := (.r (.r (.l (.l (.l (.l .z))))))
abbrev t66 : Opd := .t p66
abbrev p67 : P := (.l (.l (.r (.l (.l (.l .z))))))
abbrev t67 : Opd := .t p67
abbrev p68 : P := (.r (.l (.r (.l (.l (.l .z))))))
abbrev t68 : Opd := .t p68
abbrev p69 : P := (.l (.r (.r (.l (.l (.l .z))))))
abbrev t69 : Opd := .t p69
abbrev p70 : P := (.r (.r (.r (.l (.l (.l .z))))))
abbrev t70 : Opd := .t p70
abbrev p71 : P := (.l (.l (.l (.r (.l (.l .z))))))
abbrev t71 : Opd := .t p71
abbrev p72 : P := (.r (.l (.l (.r (.l (.l .z))))))
abbrev t72 : Opd := .t p72
abbrev p73 : P := (.l (.r (.l (.r (.l (.l .z))))))
abbrev t73 : Opd := .t p73
abbrev p74 : P := (.r (.r (.l (.r (.l (.l .z))))))
abbrev t74 : Opd := .t p74
abbrev p75 : P := (.l (.l (.r (.r (.l (.l .z))))))
abbrev t75 : Opd := .t p75
abbrev p76 : P := (.r (.l (.r (.r (.l (.l .z))))))
abbrev t76 : Opd := .t p76
abbrev p77 : P := (.l (.r (.r (.r (.l (.l .z))))))
abbrev t77 : Opd := .t p77
abbrev p78 : P := (.r (.r (.r (.r (.l (.l .z))))))
abbrev t78 : Opd := .t p78
abbrev p79 : P := (.l (.l (.l (.l (.r (.l .z))))))
abbrev t79 : Opd := .t p79
abbrev p80 : P := (.r (.l (.l (.l (.r (.l .z))))))
abbrev t80 : Opd := .t p80
abbrev p81 : P := (.l (.r (.l (.l (.r (.l .z))))))
abbrev t81 : Opd := .t p81
abbrev p82 : P := (.r (.r (.l (.l (.r (.l .z))))))
abbrev t82 : Opd := .t p82
abbrev p83 : P := (.l (.l (.r (.l (.r (.l .z))))))
abbrev t83 : Opd := .t p83
abbrev p84 : P := (.r (.l (.r (.l (.r (.l .z))))))
abbrev t84 : Opd := .t p84
abbrev p85 : P := (.l (.r (.r (.l (.r (.l .z))))))
abbrev t85 : Opd := .t p85
abbrev p86 : P := (.r (.r (.r (.l (.r (.l .z))))))
abbrev t86 : Opd := .t p86
abbrev p87 : P := (.l (.l (.l (.r (.r (.l .z))))))
abbrev t87 : Opd := .t p87
abbrev p88 : P := (.r (.l (.l (.r (.r (.l .z))))))
abbrev t88 : Opd := .t p88
abbrev p89 : P := (.l (.r (.l (.r (.r (.l .z))))))
abbrev t89 : Opd := .t p89
abbrev p90 : P := (.r (.r (.l (.r (.r (.l .z))))))
abbrev t90 : Opd := .t p90
abbrev p91 : P := (.l (.l (.r (.r (.r (.l .z))))))
abbrev t91 : Opd := .t p91
abbrev p92 : P := (.r (.l (.r (.r (.r (.l .z))))))
abbrev t92 : Opd := .t p92
abbrev p93 : P := (.l (.r (.r (.r (.r (.l .z))))))
abbrev t93 : Opd := .t p93
abbrev p94 : P := (.r (.r (.r (.r (.r (.l .z))))))
abbrev t94 : Opd := .t p94
abbrev p95 : P := (.l (.l (.l (.l (.l (.r .z))))))
abbrev t95 : Opd := .t p95
abbrev p96 : P := (.r (.l (.l (.l (.l (.r .z))))))
abbrev t96 : Opd := .t p96
abbrev p97 : P := (.l (.r (.l (.l (.l (.r .z))))))
abbrev t97 : Opd := .t p97
abbrev p98 : P := (.r (.r (.l (.l (.l (.r .z))))))
abbrev t98 : Opd := .t p98
abbrev p99 : P := (.l (.l (.r (.l (.l (.r .z))))))
abbrev t99 : Opd := .t p99
abbrev p100 : P := (.r (.l (.r (.l (.l (.r .z))))))
abbrev t100 : Opd := .t p100
abbrev p101 : P := (.l (.r (.r (.l (.l (.r .z))))))
abbrev t101 : Opd := .t p101
abbrev p102 : P := (.r (.r (.r (.l (.l (.r .z))))))
abbrev t102 : Opd := .t p102
abbrev p103 : P := (.l (.l (.l (.r (.l (.r .z))))))
abbrev t103 : Opd := .t p103
abbrev p104 : P := (.r (.l (.l (.r (.l (.r .z))))))
abbrev t104 : Opd := .t p104
abbrev p105 : P := (.l (.r (.l (.r (.l (.r .z))))))
abbrev t105 : Opd := .t p105
abbrev p106 : P := (.r (.r (.l (.r (.l (.r .z))))))
abbrev t106 : Opd := .t p106
abbrev p107 : P := (.l (.l (.r (.r (.l (.r .z))))))
abbrev t107 : Opd := .t p107
abbrev p108 : P := (.r (.l (.r (.r (.l (.r .z))))))
abbrev t108 : Opd := .t p108
abbrev p109 : P := (.l (.r (.r (.r (.l (.r .z))))))
abbrev t109 : Opd := .t p109
abbrev p110 : P := (.r (.r (.r (.r (.l (.r .z))))))
abbrev t110 : Opd := .t p110
abbrev p111 : P := (.l (.l (.l (.l (.r (.r .z))))))
abbrev t111 : Opd := .t p111
abbrev p112 : P := (.r (.l (.l (.l (.r (.r .z))))))
abbrev t112 : Opd := .t p112
abbrev p113 : P := (.l (.r (.l (.l (.r (.r .z))))))
abbrev t113 : Opd := .t p113
abbrev p114 : P := (.r (.r (.l (.l (.r (.r .z))))))
abbrev t114 : Opd := .t p114
abbrev p115 : P := (.l (.l (.r (.l (.r (.r .z))))))
abbrev t115 : Opd := .t p115
abbrev p116 : P := (.r (.l (.r (.l (.r (.r .z))))))
abbrev t116 : Opd := .t p116
abbrev p117 : P := (.l (.r (.r (.l (.r (.r .z))))))
abbrev t117 : Opd := .t p117
abbrev p118 : P := (.r (.r (.r (.l (.r (.r .z))))))
abbrev t118 : Opd := .t p118
abbrev p119 : P := (.l (.l (.l (.r (.r (.r .z))))))
abbrev t119 : Opd := .t p119
abbrev p120 : P := (.r (.l (.l (.r (.r (.r .z))))))
abbrev t120 : Opd := .t p120
abbrev p121 : P := (.l (.r (.l (.r (.r (.r .z))))))
abbrev t121 : Opd := .t p121
abbrev p122 : P := (.r (.r (.l (.r (.r (.r .z))))))
abbrev t122 : Opd := .t p122
abbrev p123 : P := (.l (.l (.r (.r (.r (.r .z))))))
abbrev t123 : Opd := .t p123
abbrev p124 : P := (.r (.l (.r (.r (.r (.r .z))))))
abbrev t124 : Opd := .t p124
abbrev p125 : P := (.l (.r (.r (.r (.r (.r .z))))))
abbrev t125 : Opd := .t p125
abbrev p126 : P := (.r (.r (.r (.r (.r (.r .z))))))
abbrev t126 : Opd := .t p126
abbrev p127 : P := (.l (.l (.l (.l (.l (.l (.l .z)))))))
abbrev t127 : Opd := .t p127
abbrev p128 : P := (.r (.l (.l (.l (.l (.l (.l .z)))))))
abbrev t128 : Opd := .t p128
abbrev p129 : P := (.l (.r (.l (.l (.l (.l (.l .z)))))))
abbrev t129 : Opd := .t p129
abbrev p130 : P := (.r (.r (.l (.l (.l (.l (.l .z)))))))
abbrev t130 : Opd := .t p130
abbrev p131 : P := (.l (.l (.r (.l (.l (.l (.l .z)))))))
abbrev t131 : Opd := .t p131
abbrev p132 : P := (.r (.l (.r (.l (.l (.l (.l .z)))))))
abbrev t132 : Opd := .t p132
abbrev p133 : P := (.l (.r (.r (.l (.l (.l (.l .z)))))))
abbrev t133 : Opd := .t p133
abbrev p134 : P := (.r (.r (.r (.l (.l (.l (.l .z)))))))
abbrev t134 : Opd := .t p134
abbrev p135 : P := (.l (.l (.l (.r (.l (.l (.l .z)))))))
abbrev t135 : Opd := .t p135
abbrev p136 : P := (.r (.l (.l (.r (.l (.l (.l .z)))))))
abbrev t136 : Opd := .t p136
abbrev p137 : P := (.l (.r (.l (.r (.l (.l (.l .z)))))))
abbrev t137 : Opd := .t p137
abbrev p138 : P := (.r (.r (.l (.r (.l (.l (.l .z)))))))
abbrev t138 : Opd := .t p138
abbrev p139 : P := (.l (.l (.r (.r (.l (.l (.l .z)))))))
abbrev t139 : Opd := .t p139
/- delver/delverlaw15.ShadeUnits -/
def f3 : Fd := .mk [p0]
 (.seq (.reg [.mk (some p2) none (.mv (.c (.bool false)))])
 (.seq (.seq (.reg [.mk (some p10) none (.mv t0),
  .mk (some p11) none (.call p15 [t10]),
  .mk (some p12) none (.mv t11),
  .mk (some p13) (some (p12, false)) (.mv t0),
  .mk (some p14) (some (p12, false)) (.call p16 [t13]),
  .mk (some p15) (some (p12, false)) (.not t14),
  .mk (some p16) none (.pick t12 (.c (.bool true)) t15)])
 (.cond t16 (.seq (.reg [.mk (some p2) none (.mv (.c (.bool true)))])
 .ret) .skip))
 (.seq (.reg [.mk (some p18) none (.mv t0),
  .mk (some p19) none (.call p17 [t18]),
  .mk (some p17) none (.mv t19),
  .mk (some p20) none (.ex t17 0),
  .mk (some p21) none (.ex t17 1),
  .mk (some p22) none (.ex t17 2),
  .mk (some p3) none (.mv t20),
  .mk (some p4) none (.mv t21),
  .mk (some p5) none (.mv t22)])
 (.seq (.seq (.reg [.mk (some p23) none (.mv t5),
  .mk (some p24) none (.bin .eq t23 (.c (.int .i64 (.ofNat 0)))),
  .mk (some p25) none (.mv t24),
  .mk (some p26) (some (p25, true)) (.mv t3),
  .mk (some p27) (some (p25, true)) (.bin .lt t26 (.c (.int .i64 (.ofNat 0)))),
  .mk (some p28) (some (p25, true)) (.mv t27),
  .mk (some p29) (some (p28, false)) (.mv t3),
  .mk (some p30) (some (p28, false)) (.mv t0),
  .mk (some p31) (some (p28, false)) (.len t30),
  .mk (some p32) (some (p28, false)) (.bin .ge t29 t31),
  .mk (some p33) (some (p25, true)) (.pick t28 (.c (.bool true)) t32),
  .mk (some p34) none (.pick t25 t33 (.c (.bool false)))])
 (.cond t34 (.seq (.reg [.mk (some p2) none (.mv (.c (.bool false)))])
 .ret) .skip))
 (.seq (.seq (.reg [.mk (some p35) none (.mv t5),
  .mk (some p36) none (.bin .ne t35 (.c (.int .i64 (.ofNat 0))))])
 (.cond t36 (.reg [.mk (some p37) none (.mv t0),
  .mk (some p38) none (.len t37),
  .mk (some p3) none (.mv t38)]) .skip))
 (.seq (.seq (.reg [.mk (some p6) none (.mv (.c (.int .i64 (.ofNat 0))))])
 (.block 0 (.loop [p0, p3, p4, p5, p6] (.seq (.seq (.reg [.mk (some p39) none (.mv t6),
  .mk (some p40) none (.mv t3),
  .mk (some p41) none (.bin .lt t39 t40)])
 (.cond t41 .skip (.exit 0)))
 (.seq (.block 1 (.seq (.reg [.mk (some p7) none (.mv (.c (.int .i64 (.ofNat 0))))])
 (.block 2 (.loop [p0, p3, p4, p5, p6, p7] (.seq (.seq (.reg [.mk (some p44) none (.mv t0),
  .mk (some p45) none (.mv t6),
  .mk (some p46) none (.ia 3 t44 t45),
  .mk (some p47) none (.fa 2 t46),
  .mk (some p48) none (.ld t47),
  .mk (some p49) none (.mv t48),
  .mk (some p50) (some (p49, true)) (.mv t7),
  .mk (some p51) (some (p49, true)) (.mv t0),
  .mk (some p52) (some (p49, true)) (.mv t6),
  .mk (some p53) (some (p49, true)) (.ia 3 t51 t52),
  .mk (some p54) (some (p49, true)) (.fa 0 t53),
  .mk (some p55) (some (p49, true)) (.fa 1 t54),
  .mk (some p56) (some (p49, true)) (.ld t55),
  .mk (some p57) (some (p49, true)) (.len t56),
  .mk (some p58) (some (p49, true)) (.bin .lt t50 t57),
  .mk (some p59) none (.pick t49 t58 (.c (.bool false)))])
 (.cond t59 .skip (.exit 2)))
 (.seq (.block 3 (.seq (.reg [.mk (some p62) none (.mv t0),
  .mk (some p63) none (.mv t6),
  .mk (some p64) none (.ia 3 t62 t63),
  .mk (some p65) none (.fa 0 t64),
  .mk (some p66) none (.fa 1 t65),
  .mk (some p67) none (.ld t66),
  .mk (some p68) none (.mv t7),
  .mk (some p69) none (.ia 2 t67 t68),
  .mk (some p70) none (.fa 1 t69),
  .mk (some p71) none (.ld t70),
  .mk (some p72) none (.bin .eq t71 (.c (.int .i64 (.ofNat 1)))),
  .mk (some p73) none (.mv t72),
  .mk (some p74) (some (p73, false)) (.mv t0),
  .mk (some p75) (some (p73, false)) (.mv t6),
  .mk (some p76) (some (p73, false)) (.ia 3 t74 t75),
  .mk (some p77) (some (p73, false)) (.fa 0 t76),
  .mk (some p78) (some (p73, false)) (.fa 1 t77),
  .mk (some p79) (some (p73, false)) (.ld t78),
  .mk (some p80) (some (p73, false)) (.mv t7),
  .mk (some p81) (some (p73, false)) (.ia 2 t79 t80),
  .mk (some p82) (some (p73, false)) (.fa 1 t81),
  .mk (some p83) (some (p73, false)) (.ld t82),
  .mk (some p84) (some (p73, false)) (.bin .eq t83 (.c (.int .i64 (.negSucc 0)))),
  .mk (some p85) none (.pick t73 (.c (.bool true)) t84)])
 (.cond t85 (.seq (.reg [.mk (some p2) none (.mv (.c (.bool false)))])
 .ret) .skip)))
 (.reg [.mk (some p60) none (.mv t7),
  .mk (some p61) none (.bin .add t60 (.c (.int .i64 (.ofNat 1)))),
  .mk (some p7) none (.mv t61)])))))))
 (.reg [.mk (some p42) none (.mv t6),
  .mk (some p43) none (.bin .add t42 (.c (.int .i64 (.ofNat 1)))),
  .mk (some p6) none (.mv t43)]))))))
 (.seq (.seq (.reg [.mk (some p86) none (.mv t5),
  .mk (some p87) none (.bin .ne t86 (.c (.int .i64 (.ofNat 0))))])
 (.cond t87 (.seq (.reg [.mk (some p88) none (.mv t5),
  .mk (some p89) none (.bin .eq t88 (.c (.int .i64 (.ofNat 5)))),
  .mk (some p90) none (.mv t89),
  .mk (some p91) (some (p90, true)) (.mv t4),
  .mk (some p92) (some (p90, true)) (.bin .eq t91 (.c (.int .i64 (.ofNat 0)))),
  .mk (some p93) none (.pick t90 t92 (.c (.bool false))),
  .mk (some p94) none (.mv t93),
  .mk (some p95) (some (p94, true)) (.call p18 []),
  .mk (some p96) none (.pick t94 t95 (.c (.bool false))),
  .mk (some p2) none (.mv t96)])
 .ret) .skip))
 (.seq (.seq (.reg [.mk (some p8) none (.mv (.c (.int .i64 (.ofNat 0))))])
 (.block 4 (.loop [p0, p3, p4, p8] (.seq (.seq (.reg [.mk (some p97) none (.mv t8),
  .mk (some p98) none (.mv t0),
  .mk (some p99) none (.mv t3),
  .mk (some p100) none (.ia 3 t98 t99),
  .mk (some p101) none (.fa 0 t100),
  .mk (some p102) none (.fa 1 t101),
  .mk (some p103) none (.ld t102),
  .mk (some p104) none (.len t103),
  .mk (some p105) none (.bin .lt t97 t104)])
 (.cond t105 .skip (.exit 4)))
 (.seq (.block 5 (.seq (.reg [.mk (some p108) none (.mv t0),
  .mk (some p109) none (.mv t3),
  .mk (some p110) none (.ia 3 t108 t109),
  .mk (some p111) none (.fa 0 t110),
  .mk (some p112) none (.fa 1 t111),
  .mk (some p113) none (.ld t112),
  .mk (some p114) none (.mv t8),
  .mk (some p115) none (.ia 2 t113 t114),
  .mk (some p116) none (.lda 2 t115),
  .loc p9 [(.int .i64 (.ofNat 0)), (.int .i64 (.ofNat 0))],
  .mk none none (.st 2 t9 t116)])
 (.seq (.reg [.mk (some p117) none (.fa 1 t9),
  .mk (some p118) none (.ld t117),
  .mk (some p119) none (.bin .eq t118 (.c (.int .i64 (.ofNat 1)))),
  .mk (some p120) none (.mv t119),
  .mk (some p121) (some (p120, false)) (.fa 1 t9),
  .mk (some p122) (some (p120, false)) (.ld t121),
  .mk (some p123) (some (p120, false)) (.bin .eq t122 (.c (.int .i64 (.negSucc 0)))),
  .mk (some p124) none (.pick t120 (.c (.bool true)) t123)])
 (.cond t124 (.seq (.reg [.mk (some p125) none (.mv t0),
  .mk (some p126) none (.mv t3),
  .mk (some p127) none (.ia 3 t125 t126),
  .mk (some p128) none (.fa 2 t127),
  .mk (some p129) none (.ld t128),
  .mk (some p130) none (.mv t129),
  .mk (some p131) (some (p130, true)) (.fa 0 t9),
  .mk (some p132) (some (p130, true)) (.ld t131),
  .mk (some p133) (some (p130, true)) (.mv t4),
  .mk (some p134) (some (p130, true)) (.bin .eq t132 t133),
  .mk (some p135) none (.pick t130 t134 (.c (.bool false))),
  .mk (some p136) none (.mv t135),
  .mk (some p137) (some (p136, true)) (.call p18 []),
  .mk (some p138) none (.pick t136 t137 (.c (.bool false))),
  .mk (some p2) none (.mv t138)])
 .ret) .skip))))
 (.reg [.mk (some p106) none (.mv t8),
  .mk (some p107) none (.bin .add t106 (.c (.int .i64 (.ofNat 1)))),
  .mk (some p8) none (.mv t107)]))))))
 (.seq (.reg [.mk (some p2) none (.mv (.c (.bool false)))])
 .ret)))))))))
 [.t p2]
def ls3 : List Nat := [9]

/- delver/delverlaw15.ShadeKeeps -/
def f4 : Fd := .mk [p0, p1]
 (.seq (.reg [.mk (some p4) none (.mv (.c (.bool false)))])
 (.seq (.seq (.reg [.mk (some p13) none (.mv t0),
  .mk (some p14) none (.call p15 [t13]),
  .mk (some p15) none (.mv t14),
  .mk (some p16) (some (p15, false)) (.mv t1),
  .mk (some p17) (some (p15, false)) (.bin .lt t16 (.c (.int .i64 (.ofNat 0)))),
  .mk (some p18) none (.pick t15 (.c (.bool true)) t17),
  .mk (some p19) none (.mv t18),
  .mk (some p20) (some (p19, false)) (.mv t1),
  .mk (some p21) (some (p19, false)) (.bin .ge t20 (.c (.int .i64 (.ofNat 40)))),
  .mk (some p22) none (.pick t19 (.c (.bool true)) t21),
  .mk (some p23) none (.mv t22),
  .mk (some p24) (some (p23, false)) (.mv t0),
  .mk (some p25) (some (p23, false)) (.call p16 [t24]),
  .mk (some p26) (some (p23, false)) (.not t25),
  .mk (some p27) none (.pick t23 (.c (.bool true)) t26),
  .mk (some p28) none (.mv t27),
  .mk (some p29) (some (p28, false)) (.mv t0),
  .mk (some p30) (some (p28, false)) (.mv t1),
  .mk (some p31) (some (p28, false)) (.call p19 [t29, t30]),
  .mk (some p32) none (.pick t28 (.c (.bool true)) t31)])
 (.cond t32 (.seq (.reg [.mk (some p4) none (.mv (.c (.bool true)))])
 .ret) .skip))
 (.seq (.reg [.mk (some p5) none (.mv (.c .nils))])
 (.seq (.reg [.mk (some p6) none (.mv (.c (.int .i64 (.ofNat 0)))),
  .mk (some p7) none (.mv (.c (.int .i64 (.ofNat 0))))])
 (.seq (.seq (.reg [.mk (some p8) none (.mv (.c (.int .i64 (.ofNat 0))))])
 (.block 0 (.loop [p0, p1, p5, p6, p7, p8] (.seq (.seq (.reg [.mk (some p33) none (.mv t8),
  .mk (some p34) none (.mv t0),
  .mk (some p35) none (.len t34),
  .mk (some p36) none (.bin .lt t33 t35)])
 (.cond t36 .skip (.exit 0)))
 (.seq (.block 1 (.seq (.reg [.mk (some p39) none (.mv t0),
  .mk (some p40) none (.mv t8),
  .mk (some p41) none (.ia 3 t39 t40),
  .mk (some p42) none (.fa 0 t41),
  .mk (some p43) none (.lda 2 t42),
  .mk (some p44) none (.mv t1),
  .mk (some p45) none (.call p20 [t43, t44]),
  .mk (some p9) none (.mv t45)])
 (.block 2 (.seq (.reg [.mk (some p54) none (.mv t9),
  .mk (some p55) none (.bin .lt t54 (.c (.int .i64 (.ofNat 0)))),
  .mk (some p53) none (.mv t55)])
 (.cond t53 (.reg [.mk (some p56) none (.mv t6),
  .mk (some p57) none (.bin .add t56 (.c (.int .i64 (.ofNat 1)))),
  .mk (some p6) none (.mv t57)]) (.seq (.reg [.mk (some p59) none (.mv t9),
  .mk (some p60) none (.bin .gt t59 (.c (.int .i64 (.ofNat 0)))),
  .mk (some p58) none (.mv t60)])
 (.cond t58 (.reg [.mk (some p61) none (.mv t7),
  .mk (some p62) none (.bin .add t61 (.c (.int .i64 (.ofNat 1)))),
  .mk (some p7) none (.mv t62)]) (.reg [.mk (some p46) none (.mv t5),
  .mk (some p47) none (.mv t0),
  .mk (some p48) none (.mv t8),
  .mk (some p49) none (.ia 3 t47 t48),
  .mk (some p50) none (.lda 3 t49),
  .mk (some p51) none (.bsl 1 3 [(.int .i64 (.ofNat 0)), .nils, (.bool false)] [(0, 3, t50)]),
  .mk (some p52) none (.app 3 40 t46 t51),
  .mk (some p5) none (.mv t52)]))))))))
 (.reg [.mk (some p37) none (.mv t8),
  .mk (some p38) none (.bin .add t37 (.c (.int .i64 (.ofNat 1)))),
  .mk (some p8) none (.mv t38)]))))))
 (.seq (.reg [.mk (some p64) none (.mv t0),
  .mk (some p65) none (.mv t1),
  .mk (some p66) none (.call p21 [t64, t65]),
  .mk (some p63) none (.mv t66),
  .mk (some p67) none (.ex t63 0),
  .mk (some p68) none (.ex t63 1),
  .mk (some p10) none (.mv t67),
  .mk (some p11) none (.mv t68)])
 (.seq (.seq (.reg [.mk (some p69) none (.mv t11),
  .mk (some p70) none (.bin .eq t69 (.c (.int .i64 (.ofNat 12))))])
 (.cond t70 (.seq (.reg [.mk (some p71) none (.mv t10),
  .mk (some p72) none (.len t71),
  .mk (some p73) none (.bin .eq t72 (.c (.int .i64 (.ofNat 0)))),
  .mk (some p74) none (.mv t73),
  .mk (some p75) (some (p74, true)) (.call p18 []),
  .mk (some p76) none (.pick t74 t75 (.c (.bool false))),
  .mk (some p4) none (.mv t76)])
 .ret) .skip))
 (.seq (.seq (.reg [.mk (some p77) none (.mv t11),
  .mk (some p78) none (.bin .ne t77 (.c (.int .i64 (.ofNat 0)))),
  .mk (some p79) none (.mv t78),
  .mk (some p80) (some (p79, false)) (.mv t10),
  .mk (some p81) (some (p79, false)) (.len t80),
  .mk (some p82) (some (p79, false)) (.mv t5),
  .mk (some p83) (some (p79, false)) (.len t82),
  .mk (some p84) (some (p79, false)) (.mv t6),
  .mk (some p85) (some (p79, false)) (.mv t7),
  .mk (some p86) (some (p79, false)) (.bin .mul t84 t85),
  .mk (some p87) (some (p79, false)) (.bin .add t83 t86),
  .mk (some p88) (some (p79, false)) (.bin .ne t81 t87),
  .mk (some p89) none (.pick t79 (.c (.bool true)) t88),
  .mk (some p90) none (.mv t89),
  .mk (some p91) (some (p90, false)) (.mv t10),
  .mk (some p92) (some (p90, false)) (.mv t5),
  .mk (some p93) (some (p90, false)) (.len t92),
  .mk (some p94) (some (p90, false)) (.sla 3 t91 none (some t93) none),
  .mk (some p95) (some (p90, false)) (.mv t5),
  .mk (some p96) (some (p90, false)) (.call p22 [t94, t95]),
  .mk (some p97) (some (p90, false)) (.not t96),
  .mk (some p98) none (.pick t90 (.c (.bool true)) t97)])
 (.cond t98 (.seq (.reg [.mk (some p4) none (.mv (.c (.bool false)))])
 .ret) .skip))
 (.seq (.seq (.reg [.mk (some p99) none (.mv t5),
  .mk (some p100) none (.len t99),
  .mk (some p12) none (.mv t100)])
 (.block 3 (.loop [p1, p10, p12] (.seq (.seq (.reg [.mk (some p101) none (.mv t12),
  .mk (some p102) none (.mv t10),
  .mk (some p103) none (.len t102),
  .mk (some p104) none (.bin .lt t101 t103)])
 (.cond t104 .skip (.exit 3)))
 (.seq (.block 4 (.seq (.reg [.mk (some p107) none (.mv t10),
  .mk (some p108) none (.mv t12),
  .mk (some p109) none (.ia 3 t107 t108),
  .mk (some p110) none (.fa 2 t109),
  .mk (some p111) none (.ld t110),
  .mk (some p112) none (.mv t111),
  .mk (some p113) (some (p112, false)) (.mv t10),
  .mk (some p114) (some (p112, false)) (.mv t12),
  .mk (some p115) (some (p112, false)) (.ia 3 t113 t114),
  .mk (some p116) (some (p112, false)) (.fa 0 t115),
  .mk (some p117) (some (p112, false)) (.lda 2 t116),
  .mk (some p118) (some (p112, false)) (.mv t1),
  .mk (some p119) (some (p112, false)) (.call p20 [t117, t118]),
  .mk (some p120) (some (p112, false)) (.bin .ne t119 (.c (.int .i64 (.ofNat 0)))),
  .mk (some p121) none (.pick t112 (.c (.bool true)) t120)])
 (.cond t121 (.seq (.reg [.mk (some p4) none (.mv (.c (.bool false)))])
 .ret) .skip)))
 (.reg [.mk (some p105) none (.mv t12),
  .mk (some p106) none (.bin .add t105 (.c (.int .i64 (.ofNat 1)))),
  .mk (some p12) none (.mv t106)]))))))
 (.seq (.reg [.mk (some p122) none (.call p18 []),
  .mk (some p4) none (.mv t122)])
 .ret))))))))))
 [.t p4]
def ls4 : List Nat := []

/- delver/delverlaw14.Heavy -/
def f15 : Fd := .mk [p0]
 (.seq (.reg [.mk (some p2) none (.mv (.c (.bool false)))])
 (.seq (.seq (.reg [.mk (some p4) none (.mv t0),
  .mk (some p5) none (.len t4),
  .mk (some p6) none (.bin .gt t5 (.c (.int .i64 (.ofNat 60))))])
 (.cond t6 (.seq (.reg [.mk (some p2) none (.mv (.c (.bool true)))])
 .ret) .skip))
 (.seq (.seq (.reg [.mk (some p3) none (.mv (.c (.int .i64 (.ofNat 0))))])
 (.block 0 (.loop [p0, p3] (.seq (.seq (.reg [.mk (some p7) none (.mv t3),
  .mk (some p8) none (.mv t0),
  .mk (some p9) none (.len t8),
  .mk (some p10) none (.bin .lt t7 t9)])
 (.cond t10 .skip (.exit 0)))
 (.seq (.block 1 (.seq (.reg [.mk (some p13) none (.mv t0),
  .mk (some p14) none (.mv t3),
  .mk (some p15) none (.ia 3 t13 t14),
  .mk (some p16) none (.fa 0 t15),
  .mk (some p17) none (.lda 2 t16),
  .mk (some p18) none (.call p49 [t17])])
 (.cond t18 (.seq (.reg [.mk (some p2) none (.mv (.c (.bool true)))])
 .ret) .skip)))
 (.reg [.mk (some p11) none (.mv t3),
  .mk (some p12) none (.bin .add t11 (.c (.int .i64 (.ofNat 1)))),
  .mk (some p3) none (.mv t12)]))))))
 (.seq (.reg [.mk (some p2) none (.mv (.c (.bool false)))])
 .ret))))
 [.t p2]
def ls15 : List Nat := []

/- delver/delverref13.Terms -/
def f16 : Fd := .mk [p0]
 (.seq (.reg [.mk (some p2) none (.mv (.c (.bool false)))])
 (.seq (.seq (.reg [.mk (some p3) none (.mv (.c (.int .i64 (.ofNat 0))))])
 (.block 0 (.loop [p0, p3] (.seq (.seq (.reg [.mk (some p4) none (.mv t3),
  .mk (some p5) none (.mv t0),
  .mk (some p6) none (.len t5),
  .mk (some p7) none (.bin .lt t4 t6)])
 (.cond t7 .skip (.exit 0)))
 (.seq (.block 1 (.seq (.reg [.mk (some p10) none (.mv t0),
  .mk (some p11) none (.mv t3),
  .mk (some p12) none (.ia 3 t10 t11),
  .mk (some p13) none (.fa 0 t12),
  .mk (some p14) none (.lda 2 t13),
  .mk (some p15) none (.call p28 [t14]),
  .mk (some p16) none (.not t15)])
 (.cond t16 (.seq (.reg [.mk (some p2) none (.mv (.c (.bool false)))])
 .ret) .skip)))
 (.reg [.mk (some p8) none (.mv t3),
  .mk (some p9) none (.bin .add t8 (.c (.int .i64 (.ofNat 1)))),
  .mk (some p3) none (.mv t9)]))))))
 (.seq (.reg [.mk (some p2) none (.mv (.c (.bool true)))])
 .ret)))
 [.t p2]
def ls16 : List Nat := []

/- delver/shade.Unit -/
def f17 : Fd := .mk [p0]
 (.seq (.reg [.mk (some p2) none (.mv (.c (.int .i64 (.ofNat 0)))),
  .mk (some p3) none (.mv (.c (.int .i64 (.ofNat 0)))),
  .mk (some p4) none (.mv (.c (.int .i64 (.ofNat 0))))])
 (.seq (.seq (.reg [.mk (some p9) none (.mv t0),
  .mk (some p10) none (.call p50 [t9, (.c (.int .i64 (.ofNat 0)))]),
  .mk (some p11) none (.not t10)])
 (.cond t11 (.seq (.reg [.mk (some p2) none (.mv (.c (.int .i64 (.ofNat 0)))),
  .mk (some p3) none (.mv (.c (.int .i64 (.ofNat 0)))),
  .mk (some p4) none (.mv (.c (.int .i64 (.ofNat 1))))])
 .ret) .skip))
 (.seq (.seq (.reg [.mk (some p12) none (.mv t0),
  .mk (some p13) none (.len t12),
  .mk (some p14) none (.mv (.c (.int .i64 (.ofNat 0))))])
 (.block 0 (.loop [p12, p13, p14] (.seq (.reg [.mk (some p15) none (.bin .lt t14 t13)])
 (.seq (.cond t15 .skip (.exit 0))
 (.seq (.block 1 (.seq (.reg [.mk (some p16) none (.mv t14),
  .mk (some p17) none (.ia 3 t12 t14),
  .mk (some p18) none (.lda 3 t17),
  .loc p6 [(.int .i64 (.ofNat 0)), .nils, (.bool false)],
  .mk (some p5) none (.mv t16),
  .mk none none (.st 3 t6 t18)])
 (.seq (.reg [.mk (some p19) none (.fa 0 t6),
  .mk (some p20) none (.fa 1 t19),
  .mk (some p21) none (.ld t20),
  .mk (some p22) none (.len t21),
  .mk (some p23) none (.mv (.c (.int .i64 (.ofNat 0))))])
 (.block 2 (.loop [p5, p6, p12, p13, p14, p21, p22, p23] (.seq (.reg [.mk (some p24) none (.bin .lt t23 t22)])
 (.seq (.cond t24 .skip (.exit 2))
 (.seq (.block 3 (.seq (.reg [.mk (some p25) none (.ia 2 t21 t23),
  .mk (some p26) none (.lda 2 t25),
  .loc p8 [(.int .i64 (.ofNat 0)), (.int .i64 (.ofNat 0))],
  .mk none none (.st 2 t8 t26)])
 (.seq (.reg [.mk (some p27) none (.fa 2 t6),
  .mk (some p28) none (.ld t27),
  .mk (some p29) none (.mv t28),
  .mk (some p30) (some (p29, true)) (.fa 1 t8),
  .mk (some p31) (some (p29, true)) (.ld t30),
  .mk (some p32) (some (p29, true)) (.call p51 [t31]),
  .mk (some p33) none (.pick t29 t32 (.c (.bool false)))])
 (.cond t33 (.seq (.drw [.mk true [p5] [p34] true (.mk (some p34) none (.mv t5)),
  .mk true [p8] [p35] true (.mk (some p35) none (.fa 0 t8)),
  .mk true [p8, p35] [p36] true (.mk (some p36) none (.ld t35)),
  .mk true [p34] [p2] true (.mk (some p2) none (.mv t34)),
  .mk true [p36] [p3] true (.mk (some p3) none (.mv t36)),
  .mk true [] [p4] true (.mk (some p4) none (.mv (.c (.int .i64 (.ofNat 0)))))])
 .ret) .skip))))
 (.reg [.mk (some p37) none (.bin .add t23 (.c (.int .i64 (.ofNat 1)))),
  .mk (some p23) none (.mv t37)])))))))))
 (.reg [.mk (some p38) none (.bin .add t14 (.c (.int .i64 (.ofNat 1)))),
  .mk (some p14) none (.mv t38)])))))))
 (.seq (.reg [.mk (some p2) none (.mv (.c (.int .i64 (.ofNat 0)))),
  .mk (some p3) none (.mv (.c (.int .i64 (.ofNat 0)))),
  .mk (some p4) none (.mv (.c (.int .i64 (.ofNat 5))))])
 .ret))))
 [.t p2, .t p3, .t p4]
def ls17 : List Nat := [6, 8]

/- delver/delverlaw15.wakes -/
def f18 : Fd := .mk []
 (.seq (.reg [.mk (some p0) none (.mv (.c (.bool false)))])
 (.seq (.reg [.mk (some p14) none (.call p48 [(.c (.int .i64 (.ofNat 0))), (.c (.int .i64 (.negSucc 0))), (.c (.int .i64 (.ofNat 3)))]),
  .mk (some p15) none (.bld [(.int .i64 (.ofNat 0)), .nils, (.bool false)] [(0, 2, t14)]),
  .mk (some p16) none (.call p48 [(.c (.int .i64 (.ofNat 0))), (.c (.int .i64 (.ofNat 1))), (.c (.int .i64 (.negSucc 6)))]),
  .mk (some p17) none (.bld [(.int .i64 (.ofNat 0)), .nils, (.bool false)] [(0, 2, t16)]),
  .mk (some p18) none (.bsl 2 3 [(.int .i64 (.ofNat 0)), .nils, (.bool false), (.int .i64 (.ofNat 0)), .nils, (.bool false)] [(0, 3, t15), (3, 3, t17)]),
  .mk (some p1) none (.mv t18)])
 (.seq (.reg [.mk (some p20) none (.mv t1),
  .mk (some p21) none (.call p25 [t20, (.c (.int .i64 (.ofNat 0))), (.c .nils)]),
  .mk (some p19) none (.mv t21),
  .mk (some p22) none (.ex t19 0),
  .mk (some p23) none (.ex t19 1),
  .mk (some p24) none (.ex t19 2),
  .mk (some p2) none (.mv t22),
  .mk (some p3) none (.mv t23),
  .mk (some p4) none (.mv t24)])
 (.seq (.reg [.mk (some p26) none (.mv t1),
  .mk (some p27) none (.call p21 [t26, (.c (.int .i64 (.ofNat 0)))]),
  .mk (some p25) none (.mv t27),
  .mk (some p28) none (.ex t25 0),
  .mk (some p29) none (.ex t25 1),
  .mk (some p5) none (.mv t28),
  .mk (some p6) none (.mv t29)])
 (.seq (.reg [.mk (some p31) none (.mv t2),
  .mk (some p32) none (.mv t3),
  .mk (some p33) none (.call p35 [t31, t32]),
  .mk (some p30) none (.mv t33),
  .mk (some p34) none (.ex t30 0),
  .mk (some p35) none (.ex t30 1),
  .mk (some p7) none (.mv t34),
  .mk (some p8) none (.mv t35)])
 (.seq (.reg [.mk (some p37) none (.mv t1),
  .mk (some p38) none (.call p24 [t37, (.c (.int .i64 (.ofNat 0)))]),
  .mk (some p36) none (.mv t38),
  .mk (some p39) none (.ex t36 0),
  .mk (some p40) none (.ex t36 1),
  .mk (some p9) none (.mv t39),
  .mk (some p10) none (.mv t40)])
 (.seq (.reg [.mk (some p42) none (.mv t1),
  .mk (some p43) none (.call p17 [t42]),
  .mk (some p41) none (.mv t43),
  .mk (some p44) none (.ex t41 0),
  .mk (some p45) none (.ex t41 1),
  .mk (some p46) none (.ex t41 2),
  .mk (some p11) none (.mv t44),
  .mk (some p12) none (.mv t45),
  .mk (some p13) none (.mv t46)])
 (.seq (.reg [.mk (some p47) none (.mv t4),
  .mk (some p48) none (.bin .eq t47 (.c (.int .i64 (.ofNat 0)))),
  .mk (some p49) none (.mv t48),
  .mk (some p50) (some (p49, true)) (.mv t6),
  .mk (some p51) (some (p49, true)) (.bin .eq t50 (.c (.int .i64 (.ofNat 0)))),
  .mk (some p52) none (.pick t49 t51 (.c (.bool false))),
  .mk (some p53) none (.mv t52),
  .mk (some p54) (some (p53, true)) (.mv t8),
  .mk (some p55) none (.pick t53 t54 (.c (.bool false))),
  .mk (some p56) none (.mv t55),
  .mk (some p57) (some (p56, true)) (.mv t10),
  .mk (some p58) (some (p56, true)) (.bin .eq t57 (.c (.int .i64 (.ofNat 0)))),
  .mk (some p59) none (.pick t56 t58 (.c (.bool false))),
  .mk (some p60) none (.mv t59),
  .mk (some p61) (some (p60, true)) (.mv t2),
  .mk (some p62) (some (p60, true)) (.bin .eq t61 (.c (.int .i64 (.ofNat 3)))),
  .mk (some p63) none (.pick t60 t62 (.c (.bool false))),
  .mk (some p64) none (.mv t63),
  .mk (some p65) (some (p64, true)) (.mv t3),
  .mk (some p66) (some (p64, true)) (.bin .eq t65 (.c (.int .i64 (.ofNat 7)))),
  .mk (some p67) none (.pick t64 t66 (.c (.bool false))),
  .mk (some p68) none (.mv t67),
  .mk (some p69) (some (p68, true)) (.mv t7),
  .mk (some p70) (some (p68, true)) (.bin .eq t69 (.c (.int .i64 (.ofNat 3)))),
  .mk (some p71) none (.pick t68 t70 (.c (.bool false))),
  .mk (some p72) none (.mv t71),
  .mk (some p73) (some (p72, true)) (.mv t9),
  .mk (some p74) none (.pick t72 t73 (.c (.bool false))),
  .mk (some p75) none (.mv t74),
  .mk (some p76) (some (p75, true)) (.mv t5),
  .mk (some p77) (some (p75, true)) (.len t76),
  .mk (some p78) (some (p75, true)) (.bin .eq t77 (.c (.int .i64 (.ofNat 1)))),
  .mk (some p79) none (.pick t75 t78 (.c (.bool false))),
  .mk (some p80) none (.mv t79),
  .mk (some p81) (some (p80, true)) (.mv t5),
  .mk (some p82) (some (p80, true)) (.ia 3 t81 (.c (.int .i64 (.ofNat 0)))),
  .mk (some p83) (some (p80, true)) (.fa 0 t82),
  .mk (some p84) (some (p80, true)) (.fa 0 t83),
  .mk (some p85) (some (p80, true)) (.ld t84),
  .mk (some p86) (some (p80, true)) (.bin .eq t85 (.c (.int .i64 (.negSucc 3)))),
  .mk (some p87) none (.pick t80 t86 (.c (.bool false))),
  .mk (some p88) none (.mv t87),
  .mk (some p89) (some (p88, true)) (.mv t13),
  .mk (some p90) (some (p88, true)) (.bin .eq t89 (.c (.int .i64 (.ofNat 5)))),
  .mk (some p91) none (.pick t88 t90 (.c (.bool false))),
  .mk (some p0) none (.mv t91)])
 .ret))))))))
 [.t p0]
def ls18 : List Nat := []

/- delver/delverref13.EqHas -/
def f19 : Fd := .mk [p0, p1]
 (.seq (.reg [.mk (some p4) none (.mv (.c (.bool false)))])
 (.seq (.seq (.reg [.mk (some p5) none (.mv (.c (.int .i64 (.ofNat 0))))])
 (.block 0 (.loop [p0, p1, p5] (.seq (.seq (.reg [.mk (some p6) none (.mv t5),
  .mk (some p7) none (.mv t0),
  .mk (some p8) none (.len t7),
  .mk (some p9) none (.bin .lt t6 t8)])
 (.cond t9 .skip (.exit 0)))
 (.seq (.block 1 (.seq (.reg [.mk (some p12) none (.mv t0),
  .mk (some p13) none (.mv t5),
  .mk (some p14) none (.ia 3 t12 t13),
  .mk (some p15) none (.fa 2 t14),
  .mk (some p16) none (.ld t15),
  .mk (some p17) none (.mv t16),
  .mk (some p18) (some (p17, true)) (.mv t0),
  .mk (some p19) (some (p17, true)) (.mv t5),
  .mk (some p20) (some (p17, true)) (.ia 3 t18 t19),
  .mk (some p21) (some (p17, true)) (.fa 0 t20),
  .mk (some p22) (some (p17, true)) (.lda 2 t21),
  .mk (some p23) (some (p17, true)) (.mv t1),
  .mk (some p24) (some (p17, true)) (.call p20 [t22, t23]),
  .mk (some p25) (some (p17, true)) (.bin .ne t24 (.c (.int .i64 (.ofNat 0)))),
  .mk (some p26) none (.pick t17 t25 (.c (.bool false)))])
 (.cond t26 (.seq (.reg [.mk (some p4) none (.mv (.c (.bool true)))])
 .ret) .skip)))
 (.reg [.mk (some p10) none (.mv t5),
  .mk (some p11) none (.bin .add t10 (.c (.int .i64 (.ofNat 1)))),
  .mk (some p5) none (.mv t11)]))))))
 (.seq (.reg [.mk (some p4) none (.mv (.c (.bool false)))])
 .ret)))
 [.t p4]
def ls19 : List Nat := []

/- delver/delverref13.K -/
def f20 : Fd := .mk [p0, p1]
 (.seq (.reg [.locb p2 t0,
  .mk (some p4) none (.mv (.c (.int .i64 (.ofNat 0))))])
 (.seq (.seq (.reg [.mk (some p5) none (.mv (.c (.int .i64 (.ofNat 0))))])
 (.block 0 (.loop [p1, p2, p5] (.seq (.seq (.reg [.mk (some p6) none (.mv t5),
  .mk (some p7) none (.fa 1 t2),
  .mk (some p8) none (.ld t7),
  .mk (some p9) none (.len t8),
  .mk (some p10) none (.bin .lt t6 t9)])
 (.cond t10 .skip (.exit 0)))
 (.seq (.block 1 (.seq (.reg [.mk (some p13) none (.fa 1 t2),
  .mk (some p14) none (.ld t13),
  .mk (some p15) none (.mv t5),
  .mk (some p16) none (.ia 2 t14 t15),
  .mk (some p17) none (.fa 0 t16),
  .mk (some p18) none (.ld t17),
  .mk (some p19) none (.mv t1),
  .mk (some p20) none (.bin .eq t18 t19)])
 (.cond t20 (.seq (.reg [.mk (some p21) none (.fa 1 t2),
  .mk (some p22) none (.ld t21),
  .mk (some p23) none (.mv t5),
  .mk (some p24) none (.ia 2 t22 t23),
  .mk (some p25) none (.fa 1 t24),
  .mk (some p26) none (.ld t25),
  .mk (some p4) none (.mv t26)])
 .ret) .skip)))
 (.reg [.mk (some p11) none (.mv t5),
  .mk (some p12) none (.bin .add t11 (.c (.int .i64 (.ofNat 1)))),
  .mk (some p5) none (.mv t12)]))))))
 (.seq (.reg [.mk (some p4) none (.mv (.c (.int .i64 (.ofNat 0))))])
 .ret)))
 [.t p4]
def ls20 : List Nat := [2]

/- delver/shade.Drop -/
def f21 : Fd := .mk [p0, p1]
 (.seq (.reg [.mk (some p4) none (.mv (.c .nils)),
  .mk (some p5) none (.mv (.c (.int .i64 (.ofNat 0))))])
 (.seq (.reg [.mk (some p19) none (.mv t0),
  .mk (some p20) none (.mv t1),
  .mk (some p21) none (.call p52 [t19, t20]),
  .mk (some p6) none (.mv t21)])
 (.seq (.seq (.reg [.mk (some p22) none (.mv t6),
  .mk (some p23) none (.bin .ne t22 (.c (.int .i64 (.ofNat 0))))])
 (.cond t23 (.seq (.reg [.mk (some p24) none (.mv t6),
  .mk (some p4) none (.mv (.c .nils)),
  .mk (some p5) none (.mv t24)])
 .ret) .skip))
 (.seq (.reg [.mk (some p26) none (.mv t0),
  .mk (some p27) none (.mv t1),
  .mk (some p28) none (.call p53 [t26, t27]),
  .mk (some p25) none (.mv t28),
  .mk (some p29) none (.ex t25 0),
  .mk (some p30) none (.ex t25 1),
  .mk (some p31) none (.ex t25 2),
  .mk (some p7) none (.mv t29),
  .mk (some p8) none (.mv t30),
  .mk (some p9) none (.mv t31)])
 (.seq (.reg [.mk (some p10) none (.mv (.c .nils))])
 (.seq (.seq (.reg [.mk (some p32) none (.mv t9),
  .mk (some p33) none (.len t32),
  .mk (some p34) none (.mv (.c (.int .i64 (.ofNat 0))))])
 (.block 0 (.loop [p1, p7, p8, p10, p32, p33, p34] (.seq (.reg [.mk (some p35) none (.bin .lt t34 t33)])
 (.seq (.cond t35 .skip (.exit 0))
 (.seq (.block 1 (.seq (.reg [.mk (some p36) none (.ia 3 t32 t34),
  .mk (some p37) none (.lda 3 t36),
  .loc p12 [(.int .i64 (.ofNat 0)), .nils, (.bool false)],
  .mk none none (.st 3 t12 t37)])
 (.reg [.mk (some p38) none (.mv t10),
  .mk (some p39) none (.lda 3 t12),
  .mk (some p40) none (.call p54 [t39]),
  .mk (some p41) none (.bsl 1 3 [(.int .i64 (.ofNat 0)), .nils, (.bool false)] [(0, 3, t40)]),
  .mk (some p42) none (.app 3 40 t38 t41),
  .mk (some p10) none (.mv t42)])))
 (.reg [.mk (some p43) none (.bin .add t34 (.c (.int .i64 (.ofNat 1)))),
  .mk (some p34) none (.mv t43)])))))))
 (.seq (.seq (.reg [.mk (some p44) none (.mv t7),
  .mk (some p45) none (.len t44),
  .mk (some p46) none (.mv (.c (.int .i64 (.ofNat 0))))])
 (.block 2 (.loop [p1, p8, p10, p44, p45, p46] (.seq (.reg [.mk (some p47) none (.bin .lt t46 t45)])
 (.seq (.cond t47 .skip (.exit 2))
 (.seq (.block 3 (.seq (.reg [.mk (some p48) none (.ia 3 t44 t46),
  .mk (some p49) none (.lda 3 t48),
  .loc p14 [(.int .i64 (.ofNat 0)), .nils, (.bool false)],
  .mk none none (.st 3 t14 t49)])
 (.seq (.reg [.mk (some p50) none (.mv t8),
  .mk (some p51) none (.len t50),
  .mk (some p52) none (.mv (.c (.int .i64 (.ofNat 0))))])
 (.block 4 (.loop [p1, p8, p10, p14, p44, p45, p46, p50, p51, p52] (.seq (.reg [.mk (some p53) none (.bin .lt t52 t51)])
 (.seq (.cond t53 .skip (.exit 4))
 (.seq (.block 5 (.seq (.reg [.mk (some p54) none (.ia 3 t50 t52),
  .mk (some p55) none (.lda 3 t54),
  .loc p16 [(.int .i64 (.ofNat 0)), .nils, (.bool false)],
  .mk none none (.st 3 t16 t55)])
 (.seq (.reg [.mk (some p57) none (.lda 3 t14),
  .mk (some p58) none (.lda 3 t16),
  .mk (some p59) none (.mv t1),
  .mk (some p60) none (.call p55 [t57, t58, t59]),
  .mk (some p56) none (.mv t60),
  .mk (some p61) none (.ex t56 0),
  .mk (some p62) none (.ex t56 1),
  .loc p17 [(.int .i64 (.ofNat 0)), .nils, (.bool false)],
  .mk none none (.st 3 t17 t61),
  .mk (some p18) none (.mv t62)])
 (.seq (.seq (.reg [.mk (some p63) none (.mv t18),
  .mk (some p64) none (.bin .ne t63 (.c (.int .i64 (.ofNat 0))))])
 (.cond t64 (.seq (.reg [.mk (some p65) none (.mv t18),
  .mk (some p4) none (.mv (.c .nils)),
  .mk (some p5) none (.mv t65)])
 .ret) .skip))
 (.reg [.mk (some p66) none (.mv t10),
  .mk (some p67) none (.lda 3 t17),
  .mk (some p68) none (.bsl 1 3 [(.int .i64 (.ofNat 0)), .nils, (.bool false)] [(0, 3, t67)]),
  .mk (some p69) none (.app 3 40 t66 t68),
  .mk (some p10) none (.mv t69)])))))
 (.reg [.mk (some p70) none (.bin .add t52 (.c (.int .i64 (.ofNat 1)))),
  .mk (some p52) none (.mv t70)])))))))))
 (.reg [.mk (some p71) none (.bin .add t46 (.c (.int .i64 (.ofNat 1)))),
  .mk (some p46) none (.mv t71)])))))))
 (.seq (.reg [.mk (some p72) none (.mv t10),
  .mk (some p4) none (.mv t72),
  .mk (some p5) none (.mv (.c (.int .i64 (.ofNat 0))))])
 .ret))))))))
 [.t p4, .t p5]
def ls21 : List Nat := [12, 14, 16, 17]

/- delver/delverkeep.Cons -/
def f22 : Fd := .mk [p0, p1]
 (.seq (.reg [.mk (some p4) none (.mv (.c (.bool false)))])
 (.seq (.seq (.reg [.mk (some p6) none (.mv t0),
  .mk (some p7) none (.len t6),
  .mk (some p8) none (.mv t1),
  .mk (some p9) none (.len t8),
  .mk (some p10) none (.bin .ne t7 t9)])
 (.cond t10 (.seq (.reg [.mk (some p4) none (.mv (.c (.bool false)))])
 .ret) .skip))
 (.seq (.seq (.reg [.mk (some p5) none (.mv (.c (.int .i64 (.ofNat 0))))])
 (.block 0 (.loop [p0, p1, p5] (.seq (.seq (.reg [.mk (some p11) none (.mv t5),
  .mk (some p12) none (.mv t0),
  .mk (some p13) none (.len t12),
  .mk (some p14) none (.bin .lt t11 t13)])
 (.cond t14 .skip (.exit 0)))
 (.seq (.block 1 (.seq (.drw [.mk true [p0] [p17] true (.mk (some p17) none (.mv t0)),
  .mk true [p5] [p18] true (.mk (some p18) none (.mv t5)),
  .mk true [p17, p18] [p19] true (.mk (some p19) none (.ia 3 t17 t18)),
  .mk true [p19] [p20] true (.mk (some p20) none (.fa 2 t19)),
  .mk true [p20] [p21] true (.mk (some p21) none (.ld t20)),
  .mk true [p1] [p22] true (.mk (some p22) none (.mv t1)),
  .mk true [p5] [p23] true (.mk (some p23) none (.mv t5)),
  .mk true [p22, p23] [p24] true (.mk (some p24) none (.ia 3 t22 t23)),
  .mk true [p24] [p25] true (.mk (some p25) none (.fa 2 t24)),
  .mk true [p25] [p26] true (.mk (some p26) none (.ld t25)),
  .mk true [p21, p26] [p27] true (.mk (some p27) none (.beq true t21 t26)),
  .mk true [p27] [p28] true (.mk (some p28) none (.mv t27)),
  .mk true [p0, p28] [p29] true (.mk (some p29) (some (p28, false)) (.mv t0)),
  .mk true [p5, p28] [p30] true (.mk (some p30) (some (p28, false)) (.mv t5)),
  .mk true [p29, p30, p28] [p31] true (.mk (some p31) (some (p28, false)) (.ia 3 t29 t30)),
  .mk true [p31, p28] [p32] true (.mk (some p32) (some (p28, false)) (.fa 0 t31)),
  .mk true [p32, p28] [p33] true (.mk (some p33) (some (p28, false)) (.lda 2 t32)),
  .mk true [p1, p28] [p34] true (.mk (some p34) (some (p28, false)) (.mv t1)),
  .mk true [p5, p28] [p35] true (.mk (some p35) (some (p28, false)) (.mv t5)),
  .mk true [p34, p35, p28] [p36] true (.mk (some p36) (some (p28, false)) (.ia 3 t34 t35)),
  .mk true [p36, p28] [p37] true (.mk (some p37) (some (p28, false)) (.fa 0 t36)),
  .mk true [p37, p28] [p38] true (.mk (some p38) (some (p28, false)) (.lda 2 t37)),
  .mk true [p33, p38, p28] [p39] false (.mk (some p39) (some (p28, false)) (.call p56 [t33, t38])),
  .mk true [p39, p28] [p40] true (.mk (some p40) (some (p28, false)) (.not t39)),
  .mk true [p28, p40] [p41] true (.mk (some p41) none (.pick t28 (.c (.bool true)) t40))])
 (.cond t41 (.seq (.reg [.mk (some p4) none (.mv (.c (.bool false)))])
 .ret) .skip)))
 (.reg [.mk (some p15) none (.mv t5),
  .mk (some p16) none (.bin .add t15 (.c (.int .i64 (.ofNat 1)))),
  .mk (some p5) none (.mv t16)]))))))
 (.seq (.reg [.mk (some p4) none (.mv (.c (.bool true)))])
 .ret))))
 [.t p4]
def ls22 : List Nat := []

/- delver/delverlaw13.Heavy -/
def f49 : Fd := .mk [p0]
 (.seq (.reg [.locb p1 t0,
  .mk (some p2) none (.mv (.c (.bool false)))])
 (.seq (.reg [.mk (some p3) none (.fa 1 t1),
  .mk (some p4) none (.ld t3),
  .mk (some p5) none (.len t4),
  .mk (some p6) none (.bin .gt t5 (.c (.int .i64 (.ofNat 60)))),
  .mk (some p2) none (.mv t6)])
 .ret))
 [.t p2]
def ls49 : List Nat := [1]

/- delver/delverref13.Right -/
def f28 : Fd := .mk [p0]
 (.seq (.reg [.locb p1 t0,
  .mk (some p2) none (.mv (.c (.bool false)))])
 (.seq (.seq (.reg [.mk (some p5) none (.fa 0 t1),
  .mk (some p6) none (.ld t5),
  .mk (some p7) none (.call p69 [t6, (.c (.int .i64 (.negSucc 1099511627775))), (.c (.int .i64 (.ofNat 1099511627776)))]),
  .mk (some p8) none (.not t7),
  .mk (some p9) none (.mv t8),
  .mk (some p10) (some (p9, false)) (.fa 1 t1),
  .mk (some p11) (some (p9, false)) (.ld t10),
  .mk (some p12) (some (p9, false)) (.len t11),
  .mk (some p13) (some (p9, false)) (.bin .gt t12 (.c (.int .i64 (.ofNat 40)))),
  .mk (some p14) none (.pick t9 (.c (.bool true)) t13)])
 (.cond t14 (.seq (.reg [.mk (some p2) none (.mv (.c (.bool false)))])
 .ret) .skip))
 (.seq (.seq (.reg [.mk (some p3) none (.mv (.c (.int .i64 (.ofNat 0))))])
 (.block 0 (.loop [p1, p3] (.seq (.seq (.reg [.mk (some p15) none (.mv t3),
  .mk (some p16) none (.fa 1 t1),
  .mk (some p17) none (.ld t16),
  .mk (some p18) none (.len t17),
  .mk (some p19) none (.bin .lt t15 t18)])
 (.cond t19 .skip (.exit 0)))
 (.seq (.block 1 (.seq (.reg [.mk (some p22) none (.fa 1 t1),
  .mk (some p23) none (.ld t22),
  .mk (some p24) none (.mv t3),
  .mk (some p25) none (.ia 2 t23 t24),
  .mk (some p26) none (.lda 2 t25),
  .loc p4 [(.int .i64 (.ofNat 0)), (.int .i64 (.ofNat 0))],
  .mk none none (.st 2 t4 t26)])
 (.seq (.drw [.mk true [p4] [p27] true (.mk (some p27) none (.fa 0 t4)),
  .mk true [p4, p27] [p28] true (.mk (some p28) none (.ld t27)),
  .mk true [p28] [p29] false (.mk (some p29) none (.call p69 [t28, (.c (.int .i64 (.ofNat 0))), (.c (.int .i64 (.ofNat 39)))])),
  .mk true [p29] [p30] true (.mk (some p30) none (.not t29)),
  .mk true [p30] [p31] true (.mk (some p31) none (.mv t30)),
  .mk true [p3, p31] [p32] true (.mk (some p32) (some (p31, false)) (.mv t3)),
  .mk true [p32, p31] [p33] true (.mk (some p33) (some (p31, false)) (.bin .gt t32 (.c (.int .i64 (.ofNat 0))))),
  .mk true [p33, p31] [p34] true (.mk (some p34) (some (p31, false)) (.mv t33)),
  .mk true [p4, p34] [p35] true (.mk (some p35) (some (p34, true)) (.fa 0 t4)),
  .mk true [p4, p35, p34] [p36] true (.mk (some p36) (some (p34, true)) (.ld t35)),
  .mk true [p1, p34] [p37] true (.mk (some p37) (some (p34, true)) (.fa 1 t1)),
  .mk true [p1, p37, p34] [p38] true (.mk (some p38) (some (p34, true)) (.ld t37)),
  .mk true [p3, p34] [p39] true (.mk (some p39) (some (p34, true)) (.mv t3)),
  .mk true [p39, p34] [p40] true (.mk (some p40) (some (p34, true)) (.bin .sub t39 (.c (.int .i64 (.ofNat 1))))),
  .mk true [p38, p40, p34] [p41] true (.mk (some p41) (some (p34, true)) (.ia 2 t38 t40)),
  .mk true [p41, p34] [p42] true (.mk (some p42) (some (p34, true)) (.fa 0 t41)),
  .mk true [p42, p34] [p43] true (.mk (some p43) (some (p34, true)) (.ld t42)),
  .mk true [p36, p43, p34] [p44] true (.mk (some p44) (some (p34, true)) (.bin .le t36 t43)),
  .mk true [p34, p44, p31] [p45] true (.mk (some p45) (some (p31, false)) (.pick t34 t44 (.c (.bool false)))),
  .mk true [p31, p45] [p46] true (.mk (some p46) none (.pick t31 (.c (.bool true)) t45)),
  .mk true [p46] [p47] true (.mk (some p47) none (.mv t46)),
  .mk true [p4, p47] [p48] true (.mk (some p48) (some (p47, false)) (.fa 1 t4)),
  .mk true [p4, p48, p47] [p49] true (.mk (some p49) (some (p47, false)) (.ld t48)),
  .mk true [p49, p47] [p50] false (.mk (some p50) (some (p47, false)) (.call p69 [t49, (.c (.int .i64 (.negSucc 1048575))), (.c (.int .i64 (.ofNat 1048576)))])),
  .mk true [p50, p47] [p51] true (.mk (some p51) (some (p47, false)) (.not t50)),
  .mk true [p47, p51] [p52] true (.mk (some p52) none (.pick t47 (.c (.bool true)) t51)),
  .mk true [p52] [p53] true (.mk (some p53) none (.mv t52)),
  .mk true [p4, p53] [p54] true (.mk (some p54) (some (p53, false)) (.fa 1 t4)),
  .mk true [p4, p54, p53] [p55] true (.mk (some p55) (some (p53, false)) (.ld t54)),
  .mk true [p55, p53] [p56] true (.mk (some p56) (some (p53, false)) (.bin .eq t55 (.c (.int .i64 (.ofNat 0))))),
  .mk true [p53, p56] [p57] true (.mk (some p57) none (.pick t53 (.c (.bool true)) t56))])
 (.cond t57 (.seq (.reg [.mk (some p2) none (.mv (.c (.bool false)))])
 .ret) .skip))))
 (.reg [.mk (some p20) none (.mv t3),
  .mk (some p21) none (.bin .add t20 (.c (.int .i64 (.ofNat 1)))),
  .mk (some p3) none (.mv t21)]))))))
 (.seq (.reg [.mk (some p2) none (.mv (.c (.bool true)))])
 .ret))))
 [.t p2]
def ls28 : List Nat := [1, 4]

/- delver/shade.right -/
def f50 : Fd := .mk [p0, p1]
 (.seq (.reg [.mk (some p4) none (.mv (.c (.bool false)))])
 (.seq (.reg [.mk (some p5) none (.mv t1),
  .mk (some p6) none (.bin .ge t5 (.c (.int .i64 (.ofNat 0)))),
  .mk (some p7) none (.mv t6),
  .mk (some p8) (some (p7, true)) (.mv t1),
  .mk (some p9) (some (p7, true)) (.bin .lt t8 (.c (.int .i64 (.ofNat 40)))),
  .mk (some p10) none (.pick t7 t9 (.c (.bool false))),
  .mk (some p11) none (.mv t10),
  .mk (some p12) (some (p11, true)) (.mv t0),
  .mk (some p13) (some (p11, true)) (.call p82 [t12, (.c (.fn p83 []))]),
  .mk (some p14) (some (p11, true)) (.not t13),
  .mk (some p15) none (.pick t11 t14 (.c (.bool false))),
  .mk (some p4) none (.mv t15)])
 .ret))
 [.t p4]
def ls50 : List Nat := []

/- delver/shade.one -/
def f51 : Fd := .mk [p0]
 (.seq (.reg [.mk (some p2) none (.mv (.c (.bool false)))])
 (.seq (.reg [.mk (some p3) none (.mv t0),
  .mk (some p4) none (.bin .eq t3 (.c (.int .i64 (.ofNat 1)))),
  .mk (some p5) none (.mv t4),
  .mk (some p6) (some (p5, false)) (.mv t0),
  .mk (some p7) (some (p5, false)) (.bin .eq t6 (.c (.int .i64 (.negSucc 0)))),
  .mk (some p8) none (.pick t5 (.c (.bool true)) t7),
  .mk (some p2) none (.mv t8)])
 .ret))
 [.t p2]
def ls51 : List Nat := []

/- delver/delverlaw15.Line -/
def f48 : Fd := .mk [p0, p1, p2]
 (.seq (.reg [.loc p6 [(.int .i64 (.ofNat 0)), .nils]])
 (.seq (.reg [.mk (some p7) none (.mv t2),
  .mk (some p8) none (.mv t0),
  .mk (some p9) none (.mv t1),
  .mk (some p10) none (.bld [(.int .i64 (.ofNat 0)), (.int .i64 (.ofNat 0))] [(0, 1, t8), (1, 1, t9)]),
  .mk (some p11) none (.bsl 1 2 [(.int .i64 (.ofNat 0)), (.int .i64 (.ofNat 0))] [(0, 2, t10)]),
  .mk (some p12) none (.bld [(.int .i64 (.ofNat 0)), .nils] [(0, 1, t7), (1, 1, t11)]),
  .mk none none (.st 2 t6 t12)])
 .ret))
 [.cell p6 (some 2)]
def ls48 : List Nat := [6]

/- delver/shade.Span -/
def f25 : Fd := .mk [p0, p1, p2]
 (.seq (.reg [.mk (some p4) none (.bx t1),
  .mk (some p5) none (.bx t2),
  .mk (some p6) none (.mv (.c (.int .i64 (.ofNat 0)))),
  .mk (some p7) none (.mv (.c (.int .i64 (.ofNat 0)))),
  .mk (some p8) none (.mv (.c (.int .i64 (.ofNat 0))))])
 (.seq (.reg [.mk (some p20) none (.mv t0),
  .mk (some p21) none (.ld t4),
  .mk (some p22) none (.call p52 [t20, t21]),
  .mk (some p8) none (.mv t22)])
 (.seq (.seq (.reg [.mk (some p23) none (.mv t8),
  .mk (some p24) none (.bin .ne t23 (.c (.int .i64 (.ofNat 0))))])
 (.cond t24 (.seq (.reg [.mk (some p25) none (.mv t8),
  .mk (some p6) none (.mv (.c (.int .i64 (.ofNat 0)))),
  .mk (some p7) none (.mv (.c (.int .i64 (.ofNat 0)))),
  .mk (some p8) none (.mv t25)])
 .ret) .skip))
 (.seq (.reg [.mk (some p27) none (.mv t0),
  .mk (some p28) none (.ld t4),
  .mk (some p29) none (.call p53 [t27, t28]),
  .mk (some p26) none (.mv t29),
  .mk (some p30) none (.ex t26 0),
  .mk (some p31) none (.ex t26 1),
  .mk (some p32) none (.ex t26 2),
  .mk (some p9) none (.mv t30),
  .mk (some p10) none (.mv t31),
  .mk (some p11) none (.mv t32)])
 (.seq (.reg [.mk (some p6) none (.mv (.c (.int .i64 (.negSucc 2147483647)))),
  .mk (some p7) none (.mv (.c (.int .i64 (.ofNat 2147483647))))])
 (.seq (.seq (.reg [.mk (some p33) none (.mv t9),
  .mk (some p34) none (.mv t10),
  .mk (some p35) none (.bsl 2 1 [.nils, .nils] [(0, 1, t33), (1, 1, t34)]),
  .mk (some p36) none (.call p59 [t35]),
  .mk (some p37) none (.len t36),
  .mk (some p38) none (.mv (.c (.int .i64 (.ofNat 0))))])
 (.block 0 (.loop [p4, p5, p6, p7, p9, p10, p36, p37, p38] (.seq (.reg [.mk (some p39) none (.bin .lt t38 t37)])
 (.seq (.cond t39 .skip (.exit 0))
 (.seq (.block 1 (.seq (.reg [.mk (some p40) none (.ia 3 t36 t38),
  .mk (some p41) none (.lda 3 t40),
  .loc p13 [(.int .i64 (.ofNat 0)), .nils, (.bool false)],
  .mk none none (.st 3 t13 t41)])
 (.seq (.reg [.mk (some p42) none (.fa 0 t13),
  .mk (some p43) none (.fa 1 t42),
  .mk (some p44) none (.ld t43),
  .mk (some p45) none (.mfn p61 [t4, t5]),
  .mk (some p46) none (.call p60 [t44, t45])])
 (.cond t46 (.seq (.reg [.mk (some p6) none (.mv (.c (.int .i64 (.ofNat 0)))),
  .mk (some p7) none (.mv (.c (.int .i64 (.ofNat 0)))),
  .mk (some p8) none (.mv (.c (.int .i64 (.ofNat 5))))])
 .ret) .skip))))
 (.reg [.mk (some p47) none (.bin .add t38 (.c (.int .i64 (.ofNat 1)))),
  .mk (some p38) none (.mv t47)])))))))
 (.seq (.seq (.reg [.mk (some p48) none (.ld t5),
  .mk (some p49) none (.call p62 [t48, (.c (.fn p63 []))])])
 (.cond t49 (.seq (.reg [.mk (some p6) none (.mv (.c (.int .i64 (.ofNat 0)))),
  .mk (some p7) none (.mv (.c (.int .i64 (.ofNat 0)))),
  .mk (some p8) none (.mv (.c (.int .i64 (.ofNat 1))))])
 .ret) .skip))
 (.seq (.seq (.reg [.mk (some p50) none (.mv t9),
  .mk (some p51) none (.mv t10),
  .mk (some p52) none (.bsl 2 1 [.nils, .nils] [(0, 1, t50), (1, 1, t51)]),
  .mk (some p53) none (.call p59 [t52]),
  .mk (some p54) none (.len t53),
  .mk (some p55) none (.mv (.c (.int .i64 (.ofNat 0))))])
 (.block 2 (.loop [p4, p5, p6, p7, p53, p54, p55] (.seq (.reg [.mk (some p56) none (.bin .lt t55 t54)])
 (.seq (.cond t56 .skip (.exit 2))
 (.seq (.block 3 (.seq (.reg [.mk (some p57) none (.ia 3 t53 t55),
  .mk (some p58) none (.lda 3 t57),
  .loc p15 [(.int .i64 (.ofNat 0)), .nils, (.bool false)],
  .mk none none (.st 3 t15 t58)])
 (.seq (.reg [.mk (some p59) none (.fa 0 t15),
  .mk (some p60) none (.fa 0 t59),
  .mk (some p61) none (.ld t60),
  .mk (some p16) none (.mv t61)])
 (.seq (.seq (.reg [.mk (some p62) none (.fa 0 t15),
  .mk (some p63) none (.fa 1 t62),
  .mk (some p64) none (.ld t63),
  .mk (some p65) none (.len t64),
  .mk (some p66) none (.mv (.c (.int .i64 (.ofNat 0))))])
 (.block 4 (.loop [p4, p5, p6, p7, p15, p16, p53, p54, p55, p64, p65, p66] (.seq (.reg [.mk (some p67) none (.bin .lt t66 t65)])
 (.seq (.cond t67 .skip (.exit 4))
 (.seq (.block 5 (.seq (.reg [.mk (some p68) none (.ia 2 t64 t66),
  .mk (some p69) none (.lda 2 t68),
  .loc p18 [(.int .i64 (.ofNat 0)), (.int .i64 (.ofNat 0))],
  .mk none none (.st 2 t18 t69)])
 (.seq (.reg [.mk (some p70) none (.fa 0 t18),
  .mk (some p71) none (.ld t70),
  .mk (some p72) none (.ld t4),
  .mk (some p73) none (.bin .ne t71 t72)])
 (.cond t73 (.drw [.mk true [p16] [p74] true (.mk (some p74) none (.mv t16)),
  .mk true [p18] [p75] true (.mk (some p75) none (.fa 1 t18)),
  .mk true [p18, p75] [p76] true (.mk (some p76) none (.ld t75)),
  .mk true [p5] [p77] true (.mk (some p77) none (.ld t5)),
  .mk true [p18] [p78] true (.mk (some p78) none (.fa 0 t18)),
  .mk true [p18, p78] [p79] true (.mk (some p79) none (.ld t78)),
  .mk true [p77, p79] [p80] true (.mk (some p80) none (.ia 1 t77 t79)),
  .mk true [p80] [p81] true (.mk (some p81) none (.ld t80)),
  .mk true [p76, p81] [p82] true (.mk (some p82) none (.bin .mul t76 t81)),
  .mk true [p74, p82] [p83] true (.mk (some p83) none (.bin .add t74 t82)),
  .mk true [p83] [p16] true (.mk (some p16) none (.mv t83))]) .skip))))
 (.reg [.mk (some p84) none (.bin .add t66 (.c (.int .i64 (.ofNat 1)))),
  .mk (some p66) none (.mv t84)])))))))
 (.seq (.reg [.mk (some p85) none (.fa 0 t15),
  .mk (some p86) none (.lda 2 t85),
  .mk (some p87) none (.ld t4),
  .mk (some p88) none (.call p64 [t86, t87]),
  .mk (some p19) none (.mv t88)])
 (.seq (.reg [.mk (some p89) none (.mv t19),
  .mk (some p90) none (.bin .lt t89 (.c (.int .i64 (.ofNat 0))))])
 (.cond t90 (.reg [.mk (some p91) none (.mv t6),
  .mk (some p92) none (.mv t16),
  .mk (some p93) none (.neg t92),
  .mk (some p94) none (.mv t19),
  .mk (some p95) none (.neg t94),
  .mk (some p96) none (.call p65 [t93, t95]),
  .mk (some p97) none (.neg t96),
  .mk (some p98) none (.mx t91 [t97]),
  .mk (some p6) none (.mv t98)]) (.reg [.mk (some p99) none (.mv t7),
  .mk (some p100) none (.mv t16),
  .mk (some p101) none (.neg t100),
  .mk (some p102) none (.mv t19),
  .mk (some p103) none (.call p65 [t101, t102]),
  .mk (some p104) none (.mn t99 [t103]),
  .mk (some p7) none (.mv t104)]))))))))
 (.reg [.mk (some p105) none (.bin .add t55 (.c (.int .i64 (.ofNat 1)))),
  .mk (some p55) none (.mv t105)])))))))
 (.seq (.reg [.mk (some p106) none (.mv t6),
  .mk (some p107) none (.mn t106 [(.c (.int .i64 (.ofNat 2147483647)))]),
  .mk (some p108) none (.mv t7),
  .mk (some p109) none (.mx t108 [(.c (.int .i64 (.negSucc 2147483647)))]),
  .mk (some p6) none (.mv t107),
  .mk (some p7) none (.mv t109),
  .mk (some p8) none (.mv (.c (.int .i64 (.ofNat 0))))])
 .ret)))))))))
 [.t p6, .t p7, .t p8]
def ls25 : List Nat := [13, 15, 18]

/- delver/shade.Pick -/
def f35 : Fd := .mk [p0, p1]
 (.seq (.reg [.mk (some p4) none (.mv (.c (.int .i64 (.ofNat 0)))),
  .mk (some p5) none (.mv (.c (.bool false)))])
 (.seq (.seq (.reg [.mk (some p6) none (.mv t0),
  .mk (some p7) none (.mv t1),
  .mk (some p8) none (.bin .gt t6 t7)])
 (.cond t8 (.seq (.reg [.mk (some p4) none (.mv (.c (.int .i64 (.ofNat 0)))),
  .mk (some p5) none (.mv (.c (.bool false)))])
 .ret) .skip))
 (.seq (.reg [.mk (some p9) none (.mv t0),
  .mk (some p10) none (.mx (.c (.int .i64 (.ofNat 0))) [t9]),
  .mk (some p11) none (.mv t1),
  .mk (some p12) none (.mn t10 [t11]),
  .mk (some p4) none (.mv t12),
  .mk (some p5) none (.mv (.c (.bool true)))])
 .ret)))
 [.t p4, .t p5]
def ls35 : List Nat := []

/- delver/shade.Exact -/
def f24 : Fd := .mk [p0, p1]
 (.seq (.reg [.mk (some p4) none (.mv (.c (.bool false))),
  .mk (some p5) none (.mv (.c (.int .i64 (.ofNat 0))))])
 (.seq (.reg [.mk (some p10) none (.mv t0),
  .mk (some p11) none (.mv t1),
  .mk (some p12) none (.call p52 [t10, t11]),
  .mk (some p6) none (.mv t12)])
 (.seq (.seq (.reg [.mk (some p13) none (.mv t6),
  .mk (some p14) none (.bin .ne t13 (.c (.int .i64 (.ofNat 0))))])
 (.cond t14 (.seq (.reg [.mk (some p15) none (.mv t6),
  .mk (some p4) none (.mv (.c (.bool false))),
  .mk (some p5) none (.mv t15)])
 .ret) .skip))
 (.seq (.reg [.mk (some p17) none (.mv t0),
  .mk (some p18) none (.mv t1),
  .mk (some p19) none (.call p53 [t17, t18]),
  .mk (some p16) none (.mv t19),
  .mk (some p20) none (.ex t16 0),
  .mk (some p21) none (.ex t16 1),
  .mk (some p22) none (.ex t16 2),
  .mk (some p7) none (.mv t20),
  .mk (some p8) none (.mv t21),
  .mk (some p9) none (.mv t22)])
 (.seq (.reg [.mk (some p23) none (.mv t7),
  .mk (some p24) none (.mv t1),
  .mk (some p25) none (.call p58 [t23, t24, (.c (.int .i64 (.negSucc 0)))]),
  .mk (some p26) none (.mv t25),
  .mk (some p27) (some (p26, false)) (.mv t8),
  .mk (some p28) (some (p26, false)) (.mv t1),
  .mk (some p29) (some (p26, false)) (.call p58 [t27, t28, (.c (.int .i64 (.ofNat 1)))]),
  .mk (some p30) none (.pick t26 (.c (.bool true)) t29),
  .mk (some p4) none (.mv t30),
  .mk (some p5) none (.mv (.c (.int .i64 (.ofNat 0))))])
 .ret)))))
 [.t p4, .t p5]
def ls24 : List Nat := []

/- delver/shade.may -/
def f52 : Fd := .mk [p0, p1]
 (.seq (.reg [.mk (some p4) none (.mv (.c (.int .i64 (.ofNat 0))))])
 (.seq (.block 0 (.seq (.reg [.mk (some p6) none (.mv t0),
  .mk (some p7) none (.mv t1),
  .mk (some p8) none (.call p50 [t6, t7]),
  .mk (some p9) none (.not t8),
  .mk (some p5) none (.mv t9)])
 (.cond t5 (.seq (.reg [.mk (some p4) none (.mv (.c (.int .i64 (.ofNat 1))))])
 .ret) (.seq (.reg [.mk (some p11) none (.mv t0),
  .mk (some p12) none (.mv t1),
  .mk (some p13) none (.call p84 [t11, t12]),
  .mk (some p10) none (.mv t13)])
 (.cond t10 (.seq (.reg [.mk (some p4) none (.mv (.c (.int .i64 (.ofNat 11))))])
 .ret) .skip)))))
 (.seq (.reg [.mk (some p4) none (.mv (.c (.int .i64 (.ofNat 0))))])
 .ret)))
 [.t p4]
def ls52 : List Nat := []

/- delver/shade.parts -/
def f53 : Fd := .mk [p0, p1]
 (.seq (.reg [.mk (some p4) none (.mv (.c .nils)),
  .mk (some p5) none (.mv (.c .nils)),
  .mk (some p6) none (.mv (.c .nils))])
 (.seq (.seq (.reg [.mk (some p10) none (.mv t0),
  .mk (some p11) none (.len t10),
  .mk (some p12) none (.mv (.c (.int .i64 (.ofNat 0))))])
 (.block 0 (.loop [p1, p4, p5, p6, p10, p11, p12] (.seq (.reg [.mk (some p13) none (.bin .lt t12 t11)])
 (.seq (.cond t13 .skip (.exit 0))
 (.seq (.block 1 (.seq (.reg [.mk (some p14) none (.ia 3 t10 t12),
  .mk (some p15) none (.lda 3 t14),
  .loc p8 [(.int .i64 (.ofNat 0)), .nils, (.bool false)],
  .mk none none (.st 3 t8 t15)])
 (.seq (.reg [.mk (some p16) none (.fa 0 t8),
  .mk (some p17) none (.lda 2 t16),
  .mk (some p18) none (.mv t1),
  .mk (some p19) none (.call p64 [t17, t18]),
  .mk (some p9) none (.mv t19)])
 (.block 2 (.seq (.reg [.mk (some p25) none (.mv t9),
  .mk (some p26) none (.bin .lt t25 (.c (.int .i64 (.ofNat 0)))),
  .mk (some p24) none (.mv t26)])
 (.cond t24 (.reg [.mk (some p27) none (.mv t4),
  .mk (some p28) none (.lda 3 t8),
  .mk (some p29) none (.bsl 1 3 [(.int .i64 (.ofNat 0)), .nils, (.bool false)] [(0, 3, t28)]),
  .mk (some p30) none (.app 3 40 t27 t29),
  .mk (some p4) none (.mv t30)]) (.seq (.reg [.mk (some p32) none (.mv t9),
  .mk (some p33) none (.bin .gt t32 (.c (.int .i64 (.ofNat 0)))),
  .mk (some p31) none (.mv t33)])
 (.cond t31 (.reg [.mk (some p34) none (.mv t5),
  .mk (some p35) none (.lda 3 t8),
  .mk (some p36) none (.bsl 1 3 [(.int .i64 (.ofNat 0)), .nils, (.bool false)] [(0, 3, t35)]),
  .mk (some p37) none (.app 3 40 t34 t36),
  .mk (some p5) none (.mv t37)]) (.reg [.mk (some p20) none (.mv t6),
  .mk (some p21) none (.lda 3 t8),
  .mk (some p22) none (.bsl 1 3 [(.int .i64 (.ofNat 0)), .nils, (.bool false)] [(0, 3, t21)]),
  .mk (some p23) none (.app 3 40 t20 t22),
  .mk (some p6) none (.mv t23)])))))))))
 (.reg [.mk (some p38) none (.bin .add t12 (.c (.int .i64 (.ofNat 1)))),
  .mk (some p12) none (.mv t38)])))))))
 (.seq (.reg [.mk (some p39) none (.mv t4),
  .mk (some p40) none (.mv t5),
  .mk (some p41) none (.mv t6),
  .mk (some p4) none (.mv t39),
  .mk (some p5) none (.mv t40),
  .mk (some p6) none (.mv t41)])
 .ret)))
 [.t p4, .t p5, .t p6]
def ls53 : List Nat := [8]

/- delver/shade.twin -/
def f54 : Fd := .mk [p0]
 (.seq (.reg [.locb p1 t0,
  .loc p2 [(.int .i64 (.ofNat 0)), .nils, (.bool false)]])
 (.seq (.drw [.mk true [p1] [p3] true (.mk (some p3) none (.fa 0 t1)),
  .mk true [p1, p3] [p4] true (.mk (some p4) none (.lda 2 t3)),
  .mk true [p4] [p5] true (.mk (some p5) none (.call p85 [t4])),
  .mk true [p1] [p6] true (.mk (some p6) none (.fa 2 t1)),
  .mk true [p1, p6] [p7] true (.mk (some p7) none (.ld t6)),
  .mk true [p5, p7] [p8] true (.mk (some p8) none (.bld [(.int .i64 (.ofNat 0)), .nils, (.bool false)] [(0, 2, t5), (2, 1, t7)])),
  .mk true [p2, p8] [p2] true (.mk none none (.st 3 t2 t8))])
 .ret))
 [.cell p2 (some 3)]
def ls54 : List Nat := [1, 2]

/- delver/shade.pair -/
def f55 : Fd := .mk [p0, p1, p2]
 (.seq (.reg [.locb p3 t0,
  .locb p4 t1,
  .loc p6 [(.int .i64 (.ofNat 0)), .nils, (.bool false)],
  .mk (some p7) none (.mv (.c (.int .i64 (.ofNat 0))))])
 (.seq (.drw [.mk true [p4] [p14] true (.mk (some p14) none (.fa 0 t4)),
  .mk true [p4, p14] [p15] true (.mk (some p15) none (.lda 2 t14)),
  .mk true [p3] [p16] true (.mk (some p16) none (.fa 0 t3)),
  .mk true [p3, p16] [p17] true (.mk (some p17) none (.lda 2 t16)),
  .mk true [p2] [p18] true (.mk (some p18) none (.mv t2)),
  .mk true [p17, p18] [p19] true (.mk (some p19) none (.call p64 [t17, t18])),
  .mk true [p19] [p20] true (.mk (some p20) none (.neg t19)),
  .mk true [p15, p20] [p21] true (.mk (some p21) none (.call p77 [t15, t20])),
  .mk true [p21] [p13] true (.mk (some p13) none (.mv t21)),
  .mk true [p13] [p22] true (.mk (some p22) none (.ex t13 0)),
  .mk true [p13] [p23] true (.mk (some p23) none (.ex t13 1)),
  .mk true [p8] [p8] true (.loc p8 [(.int .i64 (.ofNat 0)), .nils]),
  .mk true [p8, p22] [p8] true (.mk none none (.st 2 t8 t22)),
  .mk true [p23] [p9] true (.mk (some p9) none (.mv t23))])
 (.seq (.drw [.mk true [p3] [p25] true (.mk (some p25) none (.fa 0 t3)),
  .mk true [p3, p25] [p26] true (.mk (some p26) none (.lda 2 t25)),
  .mk true [p4] [p27] true (.mk (some p27) none (.fa 0 t4)),
  .mk true [p4, p27] [p28] true (.mk (some p28) none (.lda 2 t27)),
  .mk true [p2] [p29] true (.mk (some p29) none (.mv t2)),
  .mk true [p28, p29] [p30] true (.mk (some p30) none (.call p64 [t28, t29])),
  .mk true [p26, p30] [p31] true (.mk (some p31) none (.call p77 [t26, t30])),
  .mk true [p31] [p24] true (.mk (some p24) none (.mv t31)),
  .mk true [p24] [p32] true (.mk (some p32) none (.ex t24 0)),
  .mk true [p24] [p33] true (.mk (some p33) none (.ex t24 1)),
  .mk true [p10] [p10] true (.loc p10 [(.int .i64 (.ofNat 0)), .nils]),
  .mk true [p10, p32] [p10] true (.mk none none (.st 2 t10 t32)),
  .mk true [p33] [p11] true (.mk (some p11) none (.mv t33))])
 (.seq (.seq (.reg [.mk (some p34) none (.mv t9),
  .mk (some p35) none (.bin .ne t34 (.c (.int .i64 (.ofNat 0)))),
  .mk (some p36) none (.mv t35),
  .mk (some p37) (some (p36, false)) (.mv t11),
  .mk (some p38) (some (p36, false)) (.bin .ne t37 (.c (.int .i64 (.ofNat 0)))),
  .mk (some p39) none (.pick t36 (.c (.bool true)) t38)])
 (.cond t39 (.seq (.reg [.mk (some p40) none (.bld [(.int .i64 (.ofNat 0)), .nils, (.bool false)] []),
  .mk none none (.st 3 t6 t40),
  .mk (some p7) none (.mv (.c (.int .i64 (.ofNat 12))))])
 .ret) .skip))
 (.seq (.reg [.mk (some p42) none (.lda 2 t8),
  .mk (some p43) none (.lda 2 t10),
  .mk (some p44) none (.call p86 [t42, t43]),
  .mk (some p41) none (.mv t44),
  .mk (some p45) none (.ex t41 0),
  .mk (some p46) none (.ex t41 1),
  .loc p12 [(.int .i64 (.ofNat 0)), .nils],
  .mk none none (.st 2 t12 t45),
  .mk (some p9) none (.mv t46)])
 (.seq (.reg [.mk (some p47) none (.lda 2 t12),
  .mk (some p48) none (.bld [(.int .i64 (.ofNat 0)), .nils, (.bool false)] [(0, 2, t47)]),
  .mk (some p49) none (.mv t9),
  .mk none none (.st 3 t6 t48),
  .mk (some p7) none (.mv t49)])
 .ret))))))
 [.cell p6 (some 3), .t p7]
def ls55 : List Nat := [3, 4, 6, 8, 10, 12]

/- delver/delverkeep.Term -/
def f56 : Fd := .mk [p0, p1]
 (.seq (.reg [.locb p2 t0,
  .locb p3 t1,
  .mk (some p4) none (.mv (.c (.bool false)))])
 (.seq (.seq (.reg [.mk (some p6) none (.fa 0 t2),
  .mk (some p7) none (.ld t6),
  .mk (some p8) none (.fa 0 t3),
  .mk (some p9) none (.ld t8),
  .mk (some p10) none (.bin .ne t7 t9),
  .mk (some p11) none (.mv t10),
  .mk (some p12) (some (p11, false)) (.fa 1 t2),
  .mk (some p13) (some (p11, false)) (.ld t12),
  .mk (some p14) (some (p11, false)) (.len t13),
  .mk (some p15) (some (p11, false)) (.fa 1 t3),
  .mk (some p16) (some (p11, false)) (.ld t15),
  .mk (some p17) (some (p11, false)) (.len t16),
  .mk (some p18) (some (p11, false)) (.bin .ne t14 t17),
  .mk (some p19) none (.pick t11 (.c (.bool true)) t18)])
 (.cond t19 (.seq (.reg [.mk (some p4) none (.mv (.c (.bool false)))])
 .ret) .skip))
 (.seq (.seq (.reg [.mk (some p5) none (.mv (.c (.int .i64 (.ofNat 0))))])
 (.block 0 (.loop [p2, p3, p5] (.seq (.seq (.reg [.mk (some p20) none (.mv t5),
  .mk (some p21) none (.fa 1 t2),
  .mk (some p22) none (.ld t21),
  .mk (some p23) none (.len t22),
  .mk (some p24) none (.bin .lt t20 t23)])
 (.cond t24 .skip (.exit 0)))
 (.seq (.block 1 (.seq (.drw [.mk true [p2] [p27] true (.mk (some p27) none (.fa 1 t2)),
  .mk true [p2, p27] [p28] true (.mk (some p28) none (.ld t27)),
  .mk true [p5] [p29] true (.mk (some p29) none (.mv t5)),
  .mk true [p28, p29] [p30] true (.mk (some p30) none (.ia 2 t28 t29)),
  .mk true [p30] [p31] true (.mk (some p31) none (.lda 2 t30)),
  .mk true [p3] [p32] true (.mk (some p32) none (.fa 1 t3)),
  .mk true [p3, p32] [p33] true (.mk (some p33) none (.ld t32)),
  .mk true [p5] [p34] true (.mk (some p34) none (.mv t5)),
  .mk true [p33, p34] [p35] true (.mk (some p35) none (.ia 2 t33 t34)),
  .mk true [p35] [p36] true (.mk (some p36) none (.lda 2 t35)),
  .mk true [p31, p36] [p37] true (.mk (some p37) none (.aeq [false, false] true t31 t36))])
 (.cond t37 (.seq (.reg [.mk (some p4) none (.mv (.c (.bool false)))])
 .ret) .skip)))
 (.reg [.mk (some p25) none (.mv t5),
  .mk (some p26) none (.bin .add t25 (.c (.int .i64 (.ofNat 1)))),
  .mk (some p5) none (.mv t26)]))))))
 (.seq (.reg [.mk (some p4) none (.mv (.c (.bool true)))])
 .ret))))
 [.t p4]
def ls56 : List Nat := [2, 3]

/- delver/delverref13.in -/
def f69 : Fd := .mk [p0, p1, p2]
 (.seq (.reg [.mk (some p6) none (.mv (.c (.bool false)))])
 (.seq (.reg [.mk (some p7) none (.mv t0),
  .mk (some p8) none (.mv t1),
  .mk (some p9) none (.bin .ge t7 t8),
  .mk (some p10) none (.mv t9),
  .mk (some p11) (some (p10, true)) (.mv t0),
  .mk (some p12) (some (p10, true)) (.mv t2),
  .mk (some p13) (some (p10, true)) (.bin .le t11 t12),
  .mk (some p14) none (.pick t10 t13 (.c (.bool false))),
  .mk (some p6) none (.mv t14)])
 .ret))
 [.t p6]
def ls69 : List Nat := []

/- slices.ContainsFunc[[]delver/api.Cons,delver/api.Cons] -/
def f82 : Fd := .mk [p0, p1]
 (.seq (.reg [.mk (some p4) none (.mv (.c (.bool false)))])
 (.seq (.reg [.mk (some p5) none (.mv t0),
  .mk (some p6) none (.mv t1),
  .mk (some p7) none (.call p106 [t5, t6]),
  .mk (some p8) none (.bin .ge t7 (.c (.int .i64 (.ofNat 0)))),
  .mk (some p4) none (.mv t8)])
 .ret))
 [.t p4]
def ls82 : List Nat := []

/- delver/shade.right$1 -/
def f83 : Fd := .mk [p0]
 (.seq (.reg [.locb p1 t0,
  .mk (some p2) none (.mv (.c (.bool false)))])
 (.seq (.reg [.mk (some p3) none (.fa 0 t1),
  .mk (some p4) none (.lda 2 t3),
  .mk (some p5) none (.call p66 [t4]),
  .mk (some p6) none (.bin .ne t5 (.c (.int .i64 (.ofNat 0)))),
  .mk (some p2) none (.mv t6)])
 .ret))
 [.t p2]
def ls83 : List Nat := [1]

/- slices.Concat[[]delver/api.Cons,delver/api.Cons] -/
def f59 : Fd := .mk [p0]
 (.seq (.reg [.mk (some p2) none (.mv (.c .nils))])
 (.seq (.reg [.mk (some p3) none (.mv (.c (.int .i64 (.ofNat 0))))])
 (.seq (.seq (.reg [.mk (some p9) none (.mv t0),
  .mk (some p10) none (.len t9),
  .mk (some p11) none (.mv (.c (.int .i64 (.ofNat 0))))])
 (.block 0 (.loop [p0, p3, p9, p10, p11] (.seq (.reg [.mk (some p12) none (.bin .lt t11 t10)])
 (.seq (.cond t12 .skip (.exit 0))
 (.seq (.block 1 (.seq (.reg [.mk (some p13) none (.ia 1 t9 t11),
  .mk (some p14) none (.ld t13),
  .mk (some p5) none (.mv t14)])
 (.seq (.reg [.mk (some p15) none (.mv t3),
  .mk (some p16) none (.mv t5),
  .mk (some p17) none (.len t16),
  .mk (some p18) none (.bin .add t15 t17),
  .mk (some p3) none (.mv t18)])
 (.seq (.reg [.mk (some p19) none (.mv t3),
  .mk (some p20) none (.bin .lt t19 (.c (.int .i64 (.ofNat 0))))])
 (.cond t20 (.reg [.mk (some p21) none (.bad),
  .mk none none (.bad)]) .skip)))))
 (.reg [.mk (some p22) none (.bin .add t11 (.c (.int .i64 (.ofNat 1)))),
  .mk (some p11) none (.mv t22)])))))))
 (.seq (.reg [.mk (some p23) none (.mv t3),
  .mk (some p24) none (.call p88 [(.c .nils), t23]),
  .mk (some p6) none (.mv t24)])
 (.seq (.seq (.reg [.mk (some p25) none (.mv t0),
  .mk (some p26) none (.len t25),
  .mk (some p27) none (.mv (.c (.int .i64 (.ofNat 0))))])
 (.block 2 (.loop [p6, p25, p26, p27] (.seq (.reg [.mk (some p28) none (.bin .lt t27 t26)])
 (.seq (.cond t28 .skip (.exit 2))
 (.seq (.block 3 (.seq (.reg [.mk (some p29) none (.ia 1 t25 t27),
  .mk (some p30) none (.ld t29),
  .mk (some p8) none (.mv t30)])
 (.reg [.mk (some p31) none (.mv t6),
  .mk (some p32) none (.mv t8),
  .mk (some p33) none (.app 3 40 t31 t32),
  .mk (some p6) none (.mv t33)])))
 (.reg [.mk (some p34) none (.bin .add t27 (.c (.int .i64 (.ofNat 1)))),
  .mk (some p27) none (.mv t34)])))))))
 (.seq (.reg [.mk (some p35) none (.mv t6),
  .mk (some p2) none (.mv t35)])
 .ret))))))
 [.t p2]
def ls59 : List Nat := []

/- delver/shade.Span$1 -/
def f61 : Fd := .mk [p0, p1, p2]
 (.seq (.reg [.locb p3 t0,
  .mk (some p4) none (.mv (.c (.bool false)))])
 (.seq (.reg [.mk (some p5) none (.fa 0 t3),
  .mk (some p6) none (.ld t5),
  .mk (some p7) none (.ld t1),
  .mk (some p8) none (.bin .ne t6 t7),
  .mk (some p9) none (.mv t8),
  .mk (some p10) (some (p9, true)) (.fa 0 t3),
  .mk (some p11) (some (p9, true)) (.ld t10),
  .mk (some p12) (some (p9, true)) (.ld t2),
  .mk (some p13) (some (p9, true)) (.len t12),
  .mk (some p14) (some (p9, true)) (.bin .ge t11 t13),
  .mk (some p15) none (.pick t9 t14 (.c (.bool false))),
  .mk (some p4) none (.mv t15)])
 .ret))
 [.t p4]
def ls61 : List Nat := [3]

/- slices.ContainsFunc[[]delver/api.Mono,delver/api.Mono] -/
def f60 : Fd := .mk [p0, p1]
 (.seq (.reg [.mk (some p4) none (.mv (.c (.bool false)))])
 (.seq (.reg [.mk (some p5) none (.mv t0),
  .mk (some p6) none (.mv t1),
  .mk (some p7) none (.call p89 [t5, t6]),
  .mk (some p8) none (.bin .ge t7 (.c (.int .i64 (.ofNat 0)))),
  .mk (some p4) none (.mv t8)])
 .ret))
 [.t p4]
def ls60 : List Nat := []

/- slices.ContainsFunc[[]int,int] -/
def f62 : Fd := .mk [p0, p1]
 (.seq (.reg [.mk (some p4) none (.mv (.c (.bool false)))])
 (.seq (.reg [.mk (some p5) none (.mv t0),
  .mk (some p6) none (.mv t1),
  .mk (some p7) none (.call p90 [t5, t6]),
  .mk (some p8) none (.bin .ge t7 (.c (.int .i64 (.ofNat 0)))),
  .mk (some p4) none (.mv t8)])
 .ret))
 [.t p4]
def ls62 : List Nat := []

/- delver/shade.Span$2 -/
def f63 : Fd := .mk [p0]
 (.seq (.reg [.mk (some p2) none (.mv (.c (.bool false)))])
 (.seq (.reg [.mk (some p3) none (.mv t0),
  .mk (some p4) none (.bin .lt t3 (.c (.int .i64 (.negSucc 2147483647)))),
  .mk (some p5) none (.mv t4),
  .mk (some p6) (some (p5, false)) (.mv t0),
  .mk (some p7) (some (p5, false)) (.bin .gt t6 (.c (.int .i64 (.ofNat 2147483647)))),
  .mk (some p8) none (.pick t5 (.c (.bool true)) t7),
  .mk (some p2) none (.mv t8)])
 .ret))
 [.t p2]
def ls63 : List Nat := []

/- delver/term.K -/
def f64 : Fd := .mk [p0, p1]
 (.seq (.reg [.locb p2 t0,
  .mk (some p4) none (.mv (.c (.int .i64 (.ofNat 0))))])
 (.seq (.seq (.reg [.mk (some p7) none (.fa 1 t2),
  .mk (some p8) none (.ld t7),
  .mk (some p9) none (.len t8),
  .mk (some p10) none (.mv (.c (.int .i64 (.ofNat 0))))])
 (.block 0 (.loop [p1, p8, p9, p10] (.seq (.reg [.mk (some p11) none (.bin .lt t10 t9)])
 (.seq (.cond t11 .skip (.exit 0))
 (.seq (.block 1 (.seq (.reg [.mk (some p12) none (.ia 2 t8 t10),
  .mk (some p13) none (.lda 2 t12),
  .loc p6 [(.int .i64 (.ofNat 0)), (.int .i64 (.ofNat 0))],
  .mk none none (.st 2 t6 t13)])
 (.seq (.reg [.mk (some p14) none (.fa 0 t6),
  .mk (some p15) none (.ld t14),
  .mk (some p16) none (.mv t1),
  .mk (some p17) none (.bin .eq t15 t16)])
 (.cond t17 (.seq (.reg [.mk (some p18) none (.fa 1 t6),
  .mk (some p19) none (.ld t18),
  .mk (some p4) none (.mv t19)])
 .ret) .skip))))
 (.reg [.mk (some p20) none (.bin .add t10 (.c (.int .i64 (.ofNat 1)))),
  .mk (some p10) none (.mv t20)])))))))
 (.seq (.reg [.mk (some p4) none (.mv (.c (.int .i64 (.ofNat 0))))])
 .ret)))
 [.t p4]
def ls64 : List Nat := [2, 6]

/- delver/shade.down -/
def f65 : Fd := .mk [p0, p1]
 (.seq (.reg [.mk (some p4) none (.mv (.c (.int .i64 (.ofNat 0))))])
 (.seq (.reg [.mk (some p6) none (.mv t0),
  .mk (some p7) none (.mv t1),
  .mk (some p8) none (.bin .quo t6 t7),
  .mk (some p5) none (.mv t8)])
 (.seq (.seq (.reg [.mk (some p9) none (.mv t0),
  .mk (some p10) none (.mv t1),
  .mk (some p11) none (.bin .rem t9 t10),
  .mk (some p12) none (.bin .lt t11 (.c (.int .i64 (.ofNat 0))))])
 (.cond t12 (.reg [.mk (some p13) none (.mv t5),
  .mk (some p14) none (.bin .sub t13 (.c (.int .i64 (.ofNat 1)))),
  .mk (some p5) none (.mv t14)]) .skip))
 (.seq (.reg [.mk (some p15) none (.mv t5),
  .mk (some p4) none (.mv t15)])
 .ret))))
 [.t p4]
def ls65 : List Nat := []

/- delver/shade.all -/
def f58 : Fd := .mk [p0, p1, p2]
 (.seq (.reg [.mk (some p4) none (.bx t1),
  .mk (some p5) none (.bx t2),
  .mk (some p6) none (.mv (.c (.bool false)))])
 (.seq (.reg [.mk (some p7) none (.mv t0),
  .mk (some p8) none (.mfn p87 [t4, t5]),
  .mk (some p9) none (.call p82 [t7, t8]),
  .mk (some p10) none (.not t9),
  .mk (some p6) none (.mv t10)])
 .ret))
 [.t p6]
def ls58 : List Nat := []

/- delver/shade.has -/
def f84 : Fd := .mk [p0, p1]
 (.seq (.reg [.mk (some p3) none (.bx t1),
  .mk (some p4) none (.mv (.c (.bool false)))])
 (.seq (.reg [.mk (some p5) none (.mv t0),
  .mk (some p6) none (.mfn p107 [t3]),
  .mk (some p7) none (.call p82 [t5, t6]),
  .mk (some p4) none (.mv t7)])
 .ret))
 [.t p4]
def ls84 : List Nat := []

/- delver/term.Twin -/
def f85 : Fd := .mk [p0]
 (.seq (.reg [.locb p1 t0,
  .loc p2 [(.int .i64 (.ofNat 0)), .nils]])
 (.seq (.drw [.mk true [p1] [p3] true (.mk (some p3) none (.fa 0 t1)),
  .mk true [p1, p3] [p4] true (.mk (some p4) none (.ld t3)),
  .mk true [p1] [p5] true (.mk (some p5) none (.fa 1 t1)),
  .mk true [p1, p5] [p6] true (.mk (some p6) none (.ld t5)),
  .mk true [p6] [p7] true (.mk (some p7) none (.call p108 [t6])),
  .mk true [p4, p7] [p8] true (.mk (some p8) none (.bld [(.int .i64 (.ofNat 0)), .nils] [(0, 1, t4), (1, 1, t7)])),
  .mk true [p2, p8] [p2] true (.mk none none (.st 2 t2 t8))])
 .ret))
 [.cell p2 (some 2)]
def ls85 : List Nat := [1, 2]

/- delver/term.Scale -/
def f77 : Fd := .mk [p0, p1]
 (.seq (.reg [.locb p2 t0,
  .loc p4 [(.int .i64 (.ofNat 0)), .nils],
  .mk (some p5) none (.mv (.c (.int .i64 (.ofNat 0))))])
 (.seq (.seq (.reg [.mk (some p13) none (.lda 2 t2),
  .mk (some p14) none (.call p66 [t13]),
  .mk (some p15) none (.bin .ne t14 (.c (.int .i64 (.ofNat 0))))])
 (.cond t15 (.seq (.reg [.mk (some p16) none (.bld [(.int .i64 (.ofNat 0)), .nils] []),
  .mk none none (.st 2 t4 t16),
  .mk (some p5) none (.mv (.c (.int .i64 (.ofNat 1))))])
 .ret) .skip))
 (.seq (.reg [.mk (some p18) none (.fa 0 t2),
  .mk (some p19) none (.ld t18),
  .mk (some p20) none (.mv t1),
  .mk (some p21) none (.call p95 [t19, t20, (.c (.int .i64 (.ofNat 1099511627776)))]),
  .mk (some p17) none (.mv t21),
  .mk (some p22) none (.ex t17 0),
  .mk (some p23) none (.ex t17 1),
  .mk (some p6) none (.mv t22),
  .mk (some p7) none (.mv t23)])
 (.seq (.reg [.mk (some p24) none (.mv t6),
  .mk (some p25) none (.bld [(.int .i64 (.ofNat 0)), .nils] [(0, 1, t24)]),
  .loc p8 [(.int .i64 (.ofNat 0)), .nils],
  .mk none none (.st 2 t8 t25)])
 (.seq (.seq (.reg [.mk (some p26) none (.fa 1 t2),
  .mk (some p27) none (.ld t26),
  .mk (some p28) none (.len t27),
  .mk (some p29) none (.mv (.c (.int .i64 (.ofNat 0))))])
 (.block 0 (.loop [p1, p4, p7, p8, p27, p28, p29] (.seq (.reg [.mk (some p30) none (.bin .lt t29 t28)])
 (.seq (.cond t30 .skip (.exit 0))
 (.seq (.block 1 (.seq (.reg [.mk (some p31) none (.ia 2 t27 t29),
  .mk (some p32) none (.lda 2 t31),
  .loc p10 [(.int .i64 (.ofNat 0)), (.int .i64 (.ofNat 0))],
  .mk none none (.st 2 t10 t32)])
 (.seq (.reg [.mk (some p34) none (.fa 1 t10),
  .mk (some p35) none (.ld t34),
  .mk (some p36) none (.mv t1),
  .mk (some p37) none (.call p95 [t35, t36, (.c (.int .i64 (.ofNat 1048576)))]),
  .mk (some p33) none (.mv t37),
  .mk (some p38) none (.ex t33 0),
  .mk (some p39) none (.ex t33 1),
  .mk (some p11) none (.mv t38),
  .mk (some p12) none (.mv t39)])
 (.seq (.reg [.mk (some p40) none (.mv t7),
  .mk (some p41) none (.mv t40),
  .mk (some p42) (some (p41, true)) (.mv t12),
  .mk (some p43) none (.pick t41 t42 (.c (.bool false))),
  .mk (some p7) none (.mv t43)])
 (.seq (.reg [.mk (some p44) none (.mv t11),
  .mk (some p45) none (.bin .ne t44 (.c (.int .i64 (.ofNat 0))))])
 (.cond t45 (.reg [.mk (some p46) none (.fa 1 t8),
  .mk (some p47) none (.ld t46),
  .mk (some p48) none (.fa 0 t10),
  .mk (some p49) none (.ld t48),
  .mk (some p50) none (.mv t11),
  .mk (some p51) none (.bld [(.int .i64 (.ofNat 0)), (.int .i64 (.ofNat 0))] [(0, 1, t49), (1, 1, t50)]),
  .mk (some p52) none (.bsl 1 2 [(.int .i64 (.ofNat 0)), (.int .i64 (.ofNat 0))] [(0, 2, t51)]),
  .mk (some p53) none (.app 2 16 t47 t52),
  .mk (some p54) none (.fa 1 t8),
  .mk none none (.st 1 t54 t53)]) .skip))))))
 (.reg [.mk (some p55) none (.bin .add t29 (.c (.int .i64 (.ofNat 1)))),
  .mk (some p29) none (.mv t55)])))))))
 (.seq (.seq (.reg [.mk (some p56) none (.mv t7),
  .mk (some p57) none (.not t56)])
 (.cond t57 (.seq (.reg [.mk (some p58) none (.bld [(.int .i64 (.ofNat 0)), .nils] []),
  .mk none none (.st 2 t4 t58),
  .mk (some p5) none (.mv (.c (.int .i64 (.ofNat 12))))])
 .ret) .skip))
 (.seq (.reg [.mk (some p59) none (.lda 2 t8),
  .mk none none (.st 2 t4 t59),
  .mk (some p5) none (.mv (.c (.int .i64 (.ofNat 0))))])
 .ret)))))))
 [.cell p4 (some 2), .t p5]
def ls77 : List Nat := [2, 4, 8, 10]

/- delver/term.Add -/
def f86 : Fd := .mk [p0, p1]
 (.seq (.reg [.locb p2 t0,
  .locb p3 t1,
  .loc p4 [(.int .i64 (.ofNat 0)), .nils],
  .mk (some p5) none (.mv (.c (.int .i64 (.ofNat 0))))])
 (.seq (.seq (.reg [.mk (some p6) none (.lda 2 t2),
  .mk (some p7) none (.call p66 [t6]),
  .mk (some p8) none (.bin .ne t7 (.c (.int .i64 (.ofNat 0)))),
  .mk (some p9) none (.mv t8),
  .mk (some p10) (some (p9, false)) (.lda 2 t3),
  .mk (some p11) (some (p9, false)) (.call p66 [t10]),
  .mk (some p12) (some (p9, false)) (.bin .ne t11 (.c (.int .i64 (.ofNat 0)))),
  .mk (some p13) none (.pick t9 (.c (.bool true)) t12)])
 (.cond t13 (.seq (.reg [.mk (some p14) none (.bld [(.int .i64 (.ofNat 0)), .nils] []),
  .mk none none (.st 2 t4 t14),
  .mk (some p5) none (.mv (.c (.int .i64 (.ofNat 1))))])
 .ret) .skip))
 (.seq (.reg [.mk (some p15) none (.lda 2 t2),
  .mk (some p16) none (.lda 2 t3),
  .mk (some p17) none (.call p110 [t15, t16]),
  .mk (some p18) none (.call p109 [t17]),
  .mk (some p19) none (.ex t18 0),
  .mk (some p20) none (.ex t18 1),
  .mk none none (.st 2 t4 t19),
  .mk (some p5) none (.mv t20)])
 .ret)))
 [.cell p4 (some 2), .t p5]
def ls86 : List Nat := [2, 3, 4]

/- slices.IndexFunc[[]delver/api.Cons,delver/api.Cons] -/
def f106 : Fd := .mk [p0, p1]
 (.seq (.reg [.mk (some p4) none (.mv (.c (.int .i64 (.ofNat 0))))])
 (.seq (.seq (.reg [.mk (some p6) none (.mv t0),
  .mk (some p7) none (.len t6),
  .mk (some p8) none (.mv (.c (.int .i64 (.ofNat 0))))])
 (.block 0 (.loop [p0, p1, p7, p8] (.seq (.reg [.mk (some p9) none (.bin .lt t8 t7)])
 (.seq (.cond t9 .skip (.exit 0))
 (.seq (.block 1 (.seq (.reg [.mk (some p10) none (.mv t8),
  .mk (some p5) none (.mv t10)])
 (.seq (.reg [.mk (some p11) none (.mv t1),
  .mk (some p12) none (.mv t0),
  .mk (some p13) none (.mv t5),
  .mk (some p14) none (.ia 3 t12 t13),
  .mk (some p15) none (.lda 3 t14),
  .mk (some p16) none (.callv t11 [t15])])
 (.cond t16 (.seq (.reg [.mk (some p17) none (.mv t5),
  .mk (some p4) none (.mv t17)])
 .ret) .skip))))
 (.reg [.mk (some p18) none (.bin .add t8 (.c (.int .i64 (.ofNat 1)))),
  .mk (some p8) none (.mv t18)])))))))
 (.seq (.reg [.mk (some p4) none (.mv (.c (.int .i64 (.negSucc 0))))])
 .ret)))
 [.t p4]
def ls106 : List Nat := []

/- delver/term.Check -/
def f66 : Fd := .mk [p0]
 (.seq (.reg [.locb p1 t0,
  .mk (some p2) none (.mv (.c (.int .i64 (.ofNat 0))))])
 (.seq (.seq (.reg [.mk (some p5) none (.fa 0 t1),
  .mk (some p6) none (.ld t5),
  .mk (some p7) none (.call p91 [t6, (.c (.int .i64 (.ofNat 1099511627776)))]),
  .mk (some p8) none (.not t7),
  .mk (some p9) none (.mv t8),
  .mk (some p10) (some (p9, false)) (.fa 1 t1),
  .mk (some p11) (some (p9, false)) (.ld t10),
  .mk (some p12) (some (p9, false)) (.len t11),
  .mk (some p13) (some (p9, false)) (.bin .gt t12 (.c (.int .i64 (.ofNat 40)))),
  .mk (some p14) none (.pick t9 (.c (.bool true)) t13)])
 (.cond t14 (.seq (.reg [.mk (some p2) none (.mv (.c (.int .i64 (.ofNat 1))))])
 .ret) .skip))
 (.seq (.seq (.reg [.mk (some p15) none (.fa 1 t1),
  .mk (some p16) none (.ld t15),
  .mk (some p17) none (.len t16),
  .mk (some p18) none (.mv (.c (.int .i64 (.ofNat 0))))])
 (.block 0 (.loop [p1, p16, p17, p18] (.seq (.reg [.mk (some p19) none (.bin .lt t18 t17)])
 (.seq (.cond t19 .skip (.exit 0))
 (.seq (.block 1 (.seq (.reg [.mk (some p20) none (.mv t18),
  .mk (some p21) none (.ia 2 t16 t18),
  .mk (some p22) none (.lda 2 t21),
  .loc p4 [(.int .i64 (.ofNat 0)), (.int .i64 (.ofNat 0))],
  .mk (some p3) none (.mv t20),
  .mk none none (.st 2 t4 t22)])
 (.seq (.drw [.mk true [p4] [p23] true (.mk (some p23) none (.fa 0 t4)),
  .mk true [p4, p23] [p24] true (.mk (some p24) none (.ld t23)),
  .mk true [p24] [p25] true (.mk (some p25) none (.bin .lt t24 (.c (.int .i64 (.ofNat 0))))),
  .mk true [p25] [p26] true (.mk (some p26) none (.mv t25)),
  .mk true [p4, p26] [p27] true (.mk (some p27) (some (p26, false)) (.fa 0 t4)),
  .mk true [p4, p27, p26] [p28] true (.mk (some p28) (some (p26, false)) (.ld t27)),
  .mk true [p28, p26] [p29] true (.mk (some p29) (some (p26, false)) (.bin .ge t28 (.c (.int .i64 (.ofNat 40))))),
  .mk true [p26, p29] [p30] true (.mk (some p30) none (.pick t26 (.c (.bool true)) t29)),
  .mk true [p30] [p31] true (.mk (some p31) none (.mv t30)),
  .mk true [p3, p31] [p32] true (.mk (some p32) (some (p31, false)) (.mv t3)),
  .mk true [p32, p31] [p33] true (.mk (some p33) (some (p31, false)) (.bin .gt t32 (.c (.int .i64 (.ofNat 0))))),
  .mk true [p33, p31] [p34] true (.mk (some p34) (some (p31, false)) (.mv t33)),
  .mk true [p4, p34] [p35] true (.mk (some p35) (some (p34, true)) (.fa 0 t4)),
  .mk true [p4, p35, p34] [p36] true (.mk (some p36) (some (p34, true)) (.ld t35)),
  .mk true [p1, p34] [p37] true (.mk (some p37) (some (p34, true)) (.fa 1 t1)),
  .mk true [p1, p37, p34] [p38] true (.mk (some p38) (some (p34, true)) (.ld t37)),
  .mk true [p3, p34] [p39] true (.mk (some p39) (some (p34, true)) (.mv t3)),
  .mk true [p39, p34] [p40] true (.mk (some p40) (some (p34, true)) (.bin .sub t39 (.c (.int .i64 (.ofNat 1))))),
  .mk true [p38, p40, p34] [p41] true (.mk (some p41) (some (p34, true)) (.ia 2 t38 t40)),
  .mk true [p41, p34] [p42] true (.mk (some p42) (some (p34, true)) (.fa 0 t41)),
  .mk true [p42, p34] [p43] true (.mk (some p43) (some (p34, true)) (.ld t42)),
  .mk true [p36, p43, p34] [p44] true (.mk (some p44) (some (p34, true)) (.bin .le t36 t43)),
  .mk true [p34, p44, p31] [p45] true (.mk (some p45) (some (p31, false)) (.pick t34 t44 (.c (.bool false)))),
  .mk true [p31, p45] [p46] true (.mk (some p46) none (.pick t31 (.c (.bool true)) t45)),
  .mk true [p46] [p47] true (.mk (some p47) none (.mv t46)),
  .mk true [p4, p47] [p48] true (.mk (some p48) (some (p47, false)) (.fa 1 t4)),
  .mk true [p4, p48, p47] [p49] true (.mk (some p49) (some (p47, false)) (.ld t48)),
  .mk true [p49, p47] [p50] true (.mk (some p50) (some (p47, false)) (.bin .eq t49 (.c (.int .i64 (.ofNat 0))))),
  .mk true [p47, p50] [p51] true (.mk (some p51) none (.pick t47 (.c (.bool true)) t50)),
  .mk true [p51] [p52] true (.mk (some p52) none (.mv t51)),
  .mk true [p4, p52] [p53] true (.mk (some p53) (some (p52, false)) (.fa 1 t4)),
  .mk true [p4, p53, p52] [p54] true (.mk (some p54) (some (p52, false)) (.ld t53)),
  .mk true [p54, p52] [p55] false (.mk (some p55) (some (p52, false)) (.call p91 [t54, (.c (.int .i64 (.ofNat 1048576)))])),
  .mk true [p55, p52] [p56] true (.mk (some p56) (some (p52, false)) (.not t55)),
  .mk true [p52, p56] [p57] true (.mk (some p57) none (.pick t52 (.c (.bool true)) t56))])
 (.cond t57 (.seq (.reg [.mk (some p2) none (.mv (.c (.int .i64 (.ofNat 1))))])
 .ret) .skip))))
 (.reg [.mk (some p58) none (.bin .add t18 (.c (.int .i64 (.ofNat 1)))),
  .mk (some p18) none (.mv t58)])))))))
 (.seq (.reg [.mk (some p2) none (.mv (.c (.int .i64 (.ofNat 0))))])
 .ret))))
 [.t p2]
def ls66 : List Nat := [1, 4]

/- slices.Grow[[]delver/api.Cons,delver/api.Cons] -/
def f88 : Fd := .mk [p0, p1]
 (.seq (.reg [.mk (some p4) none (.mv (.c .nils))])
 (.seq (.seq (.reg [.mk (some p5) none (.mv t1),
  .mk (some p6) none (.bin .lt t5 (.c (.int .i64 (.ofNat 0))))])
 (.cond t6 (.reg [.mk (some p7) none (.bad),
  .mk none none (.bad)]) .skip))
 (.seq (.seq (.reg [.mk (some p8) none (.mv t1),
  .mk (some p9) none (.mv t0),
  .mk (some p10) none (.cap t9),
  .mk (some p11) none (.mv t0),
  .mk (some p12) none (.len t11),
  .mk (some p13) none (.bin .sub t10 t12),
  .mk (some p14) none (.bin .sub t8 t13),
  .mk (some p1) none (.mv t14)])
 (.seq (.reg [.mk (some p15) none (.mv t1),
  .mk (some p16) none (.bin .gt t15 (.c (.int .i64 (.ofNat 0))))])
 (.cond t16 (.reg [.mk (some p17) none (.mv t0),
  .mk (some p18) none (.mv t0),
  .mk (some p19) none (.cap t18),
  .mk (some p20) none (.sla 3 t17 none (some t19) none),
  .mk (some p21) none (.mv t1),
  .mk (some p22) none (.apz 3 40 [(.int .i64 (.ofNat 0)), .nils, (.bool false)] t20 t21),
  .mk (some p23) none (.mv t0),
  .mk (some p24) none (.len t23),
  .mk (some p25) none (.sla 3 t22 none (some t24) none),
  .mk (some p0) none (.mv t25)]) .skip)))
 (.seq (.reg [.mk (some p26) none (.mv t0),
  .mk (some p4) none (.mv t26)])
 .ret))))
 [.t p4]
def ls88 : List Nat := []

/- slices.IndexFunc[[]delver/api.Mono,delver/api.Mono] -/
def f89 : Fd := .mk [p0, p1]
 (.seq (.reg [.mk (some p4) none (.mv (.c (.int .i64 (.ofNat 0))))])
 (.seq (.seq (.reg [.mk (some p6) none (.mv t0),
  .mk (some p7) none (.len t6),
  .mk (some p8) none (.mv (.c (.int .i64 (.ofNat 0))))])
 (.block 0 (.loop [p0, p1, p7, p8] (.seq (.reg [.mk (some p9) none (.bin .lt t8 t7)])
 (.seq (.cond t9 .skip (.exit 0))
 (.seq (.block 1 (.seq (.reg [.mk (some p10) none (.mv t8),
  .mk (some p5) none (.mv t10)])
 (.seq (.reg [.mk (some p11) none (.mv t1),
  .mk (some p12) none (.mv t0),
  .mk (some p13) none (.mv t5),
  .mk (some p14) none (.ia 2 t12 t13),
  .mk (some p15) none (.lda 2 t14),
  .mk (some p16) none (.callv t11 [t15])])
 (.cond t16 (.seq (.reg [.mk (some p17) none (.mv t5),
  .mk (some p4) none (.mv t17)])
 .ret) .skip))))
 (.reg [.mk (some p18) none (.bin .add t8 (.c (.int .i64 (.ofNat 1)))),
  .mk (some p8) none (.mv t18)])))))))
 (.seq (.reg [.mk (some p4) none (.mv (.c (.int .i64 (.negSucc 0))))])
 .ret)))
 [.t p4]
def ls89 : List Nat := []

/- slices.IndexFunc[[]int,int] -/
def f90 : Fd := .mk [p0, p1]
 (.seq (.reg [.mk (some p4) none (.mv (.c (.int .i64 (.ofNat 0))))])
 (.seq (.seq (.reg [.mk (some p6) none (.mv t0),
  .mk (some p7) none (.len t6),
  .mk (some p8) none (.mv (.c (.int .i64 (.ofNat 0))))])
 (.block 0 (.loop [p0, p1, p7, p8] (.seq (.reg [.mk (some p9) none (.bin .lt t8 t7)])
 (.seq (.cond t9 .skip (.exit 0))
 (.seq (.block 1 (.seq (.reg [.mk (some p10) none (.mv t8),
  .mk (some p5) none (.mv t10)])
 (.seq (.reg [.mk (some p11) none (.mv t1),
  .mk (some p12) none (.mv t0),
  .mk (some p13) none (.mv t5),
  .mk (some p14) none (.ia 1 t12 t13),
  .mk (some p15) none (.ld t14),
  .mk (some p16) none (.callv t11 [t15])])
 (.cond t16 (.seq (.reg [.mk (some p17) none (.mv t5),
  .mk (some p4) none (.mv t17)])
 .ret) .skip))))
 (.reg [.mk (some p18) none (.bin .add t8 (.c (.int .i64 (.ofNat 1)))),
  .mk (some p8) none (.mv t18)])))))))
 (.seq (.reg [.mk (some p4) none (.mv (.c (.int .i64 (.negSucc 0))))])
 .ret)))
 [.t p4]
def ls90 : List Nat := []

/- delver/shade.all$1 -/
def f87 : Fd := .mk [p0, p1, p2]
 (.seq (.reg [.locb p3 t0,
  .mk (some p4) none (.mv (.c (.bool false)))])
 (.seq (.drw [.mk true [p3] [p5] true (.mk (some p5) none (.fa 0 t3)),
  .mk true [p3, p5] [p6] true (.mk (some p6) none (.lda 2 t5)),
  .mk true [p1] [p7] true (.mk (some p7) none (.ld t1)),
  .mk true [p6, p7] [p8] true (.mk (some p8) none (.call p64 [t6, t7])),
  .mk true [p2] [p9] true (.mk (some p9) none (.ld t2)),
  .mk true [p8, p9] [p10] true (.mk (some p10) none (.bin .ne t8 t9)),
  .mk true [p10] [p4] true (.mk (some p4) none (.mv t10))])
 .ret))
 [.t p4]
def ls87 : List Nat := [3]

/- delver/shade.has$1 -/
def f107 : Fd := .mk [p0, p1]
 (.seq (.reg [.locb p2 t0,
  .mk (some p3) none (.mv (.c (.bool false)))])
 (.seq (.reg [.mk (some p4) none (.fa 2 t2),
  .mk (some p5) none (.ld t4),
  .mk (some p6) none (.mv t5),
  .mk (some p7) (some (p6, true)) (.fa 0 t2),
  .mk (some p8) (some (p6, true)) (.lda 2 t7),
  .mk (some p9) (some (p6, true)) (.ld t1),
  .mk (some p10) (some (p6, true)) (.call p64 [t8, t9]),
  .mk (some p11) (some (p6, true)) (.bin .ne t10 (.c (.int .i64 (.ofNat 0)))),
  .mk (some p12) none (.pick t6 t11 (.c (.bool false))),
  .mk (some p3) none (.mv t12)])
 .ret))
 [.t p3]
def ls107 : List Nat := [2]

/- slices.Clone[[]delver/api.Mono,delver/api.Mono] -/
def f108 : Fd := .mk [p0]
 (.seq (.reg [.mk (some p2) none (.mv (.c .nils))])
 (.seq (.seq (.reg [.mk (some p3) none (.mv t0),
  .mk (some p4) none (.isnil false t3)])
 (.cond t4 (.seq (.reg [.mk (some p2) none (.mv (.c .nils))])
 .ret) .skip))
 (.seq (.reg [.mk (some p5) none (.bsl 0 2 [] []),
  .mk (some p6) none (.mv t0),
  .mk (some p7) none (.app 2 16 t5 t6),
  .mk (some p2) none (.mv t7)])
 .ret)))
 [.t p2]
def ls108 : List Nat := []

/- delver/term.times -/
def f95 : Fd := .mk [p0, p1, p2]
 (.seq (.reg [.mk (some p6) none (.mv (.c (.int .i64 (.ofNat 0)))),
  .mk (some p7) none (.mv (.c (.bool false)))])
 (.seq (.seq (.reg [.mk (some p10) none (.mv t0),
  .mk (some p11) none (.bin .eq t10 (.c (.int .i64 (.ofNat 0)))),
  .mk (some p12) none (.mv t11),
  .mk (some p13) (some (p12, false)) (.mv t1),
  .mk (some p14) (some (p12, false)) (.bin .eq t13 (.c (.int .i64 (.ofNat 0)))),
  .mk (some p15) none (.pick t12 (.c (.bool true)) t14)])
 (.cond t15 (.seq (.reg [.mk (some p6) none (.mv (.c (.int .i64 (.ofNat 0)))),
  .mk (some p7) none (.mv (.c (.bool true)))])
 .ret) .skip))
 (.seq (.seq (.reg [.mk (some p16) none (.mv t0),
  .mk (some p17) none (.mv t2),
  .mk (some p18) none (.call p91 [t16, t17]),
  .mk (some p19) none (.not t18),
  .mk (some p20) none (.mv t19),
  .mk (some p21) (some (p20, false)) (.mv t1),
  .mk (some p22) (some (p20, false)) (.mv t2),
  .mk (some p23) (some (p20, false)) (.call p91 [t21, t22]),
  .mk (some p24) (some (p20, false)) (.not t23),
  .mk (some p25) none (.pick t20 (.c (.bool true)) t24)])
 (.cond t25 (.seq (.reg [.mk (some p6) none (.mv (.c (.int .i64 (.ofNat 0)))),
  .mk (some p7) none (.mv (.c (.bool false)))])
 .ret) .skip))
 (.seq (.reg [.mk (some p26) none (.mv t0),
  .mk (some p27) none (.mv t0),
  .mk (some p28) none (.neg t27),
  .mk (some p29) none (.mx t26 [t28]),
  .mk (some p30) none (.mv t1),
  .mk (some p31) none (.mv t1),
  .mk (some p32) none (.neg t31),
  .mk (some p33) none (.mx t30 [t32]),
  .mk (some p8) none (.mv t29),
  .mk (some p9) none (.mv t33)])
 (.seq (.drw [.mk true [p0] [p34] true (.mk (some p34) none (.mv t0)),
  .mk true [p1] [p35] true (.mk (some p35) none (.mv t1)),
  .mk true [p34, p35] [p36] true (.mk (some p36) none (.bin .mul t34 t35)),
  .mk true [p8] [p37] true (.mk (some p37) none (.mv t8)),
  .mk true [p2] [p38] true (.mk (some p38) none (.mv t2)),
  .mk true [p9] [p39] true (.mk (some p39) none (.mv t9)),
  .mk true [p38, p39] [p40] true (.mk (some p40) none (.bin .quo t38 t39)),
  .mk true [p37, p40] [p41] true (.mk (some p41) none (.bin .le t37 t40)),
  .mk true [p36] [p6] true (.mk (some p6) none (.mv t36)),
  .mk true [p41] [p7] true (.mk (some p7) none (.mv t41))])
 .ret)))))
 [.t p6, .t p7]
def ls95 : List Nat := []

/- delver/term.sum -/
def f110 : Fd := .mk [p0, p1]
 (.seq (.reg [.locb p2 t0,
  .locb p3 t1,
  .loc p4 [(.int .i64 (.ofNat 0)), .nils]])
 (.seq (.reg [.mk (some p9) none (.fa 0 t2),
  .mk (some p10) none (.ld t9),
  .mk (some p11) none (.fa 0 t3),
  .mk (some p12) none (.ld t11),
  .mk (some p13) none (.bin .add t10 t12),
  .mk (some p14) none (.bld [(.int .i64 (.ofNat 0)), .nils] [(0, 1, t13)]),
  .loc p5 [(.int .i64 (.ofNat 0)), .nils],
  .mk none none (.st 2 t5 t14)])
 (.seq (.drw [.mk true [p2] [p15] true (.mk (some p15) none (.fa 1 t2)),
  .mk true [p2, p15] [p16] true (.mk (some p16) none (.ld t15)),
  .mk true [p3] [p17] true (.mk (some p17) none (.fa 1 t3)),
  .mk true [p3, p17] [p18] true (.mk (some p18) none (.ld t17)),
  .mk true [p16] [p6] true (.mk (some p6) none (.mv t16)),
  .mk true [p18] [p7] true (.mk (some p7) none (.mv t18))])
 (.seq (.block 0 (.loop [p4, p5, p6, p7] (.seq (.seq (.reg [.mk (some p19) none (.mv t6),
  .mk (some p20) none (.len t19),
  .mk (some p21) none (.bin .gt t20 (.c (.int .i64 (.ofNat 0)))),
  .mk (some p22) none (.mv t21),
  .mk (some p23) (some (p22, false)) (.mv t7),
  .mk (some p24) (some (p22, false)) (.len t23),
  .mk (some p25) (some (p22, false)) (.bin .gt t24 (.c (.int .i64 (.ofNat 0)))),
  .mk (some p26) none (.pick t22 (.c (.bool true)) t25)])
 (.cond t26 .skip (.exit 0)))
 (.block 1 (.seq (.reg [.loc p8 [(.int .i64 (.ofNat 0)), (.int .i64 (.ofNat 0))]])
 (.seq (.block 2 (.seq (.drw [.mk true [p7] [p46] true (.mk (some p46) none (.mv t7)),
  .mk true [p46] [p47] true (.mk (some p47) none (.len t46)),
  .mk true [p47] [p48] true (.mk (some p48) none (.bin .eq t47 (.c (.int .i64 (.ofNat 0))))),
  .mk true [p48] [p49] true (.mk (some p49) none (.mv t48)),
  .mk true [p6, p49] [p50] true (.mk (some p50) (some (p49, false)) (.mv t6)),
  .mk true [p50, p49] [p51] true (.mk (some p51) (some (p49, false)) (.len t50)),
  .mk true [p51, p49] [p52] true (.mk (some p52) (some (p49, false)) (.bin .gt t51 (.c (.int .i64 (.ofNat 0))))),
  .mk true [p52, p49] [p53] true (.mk (some p53) (some (p49, false)) (.mv t52)),
  .mk true [p6, p53] [p54] true (.mk (some p54) (some (p53, true)) (.mv t6)),
  .mk true [p54, p53] [p55] true (.mk (some p55) (some (p53, true)) (.ia 2 t54 (.c (.int .i64 (.ofNat 0))))),
  .mk true [p55, p53] [p56] true (.mk (some p56) (some (p53, true)) (.fa 0 t55)),
  .mk true [p56, p53] [p57] true (.mk (some p57) (some (p53, true)) (.ld t56)),
  .mk true [p7, p53] [p58] true (.mk (some p58) (some (p53, true)) (.mv t7)),
  .mk true [p58, p53] [p59] true (.mk (some p59) (some (p53, true)) (.ia 2 t58 (.c (.int .i64 (.ofNat 0))))),
  .mk true [p59, p53] [p60] true (.mk (some p60) (some (p53, true)) (.fa 0 t59)),
  .mk true [p60, p53] [p61] true (.mk (some p61) (some (p53, true)) (.ld t60)),
  .mk true [p57, p61, p53] [p62] true (.mk (some p62) (some (p53, true)) (.bin .lt t57 t61)),
  .mk true [p53, p62, p49] [p63] true (.mk (some p63) (some (p49, false)) (.pick t53 t62 (.c (.bool false)))),
  .mk true [p49, p63] [p64] true (.mk (some p64) none (.pick t49 (.c (.bool true)) t63)),
  .mk true [p64] [p45] true (.mk (some p45) none (.mv t64))])
 (.cond t45 (.drw [.mk true [p6] [p65] true (.mk (some p65) none (.mv t6)),
  .mk true [p65] [p66] true (.mk (some p66) none (.ia 2 t65 (.c (.int .i64 (.ofNat 0))))),
  .mk true [p66] [p67] true (.mk (some p67) none (.lda 2 t66)),
  .mk true [p6] [p68] true (.mk (some p68) none (.mv t6)),
  .mk true [p68] [p69] true (.mk (some p69) none (.sla 2 t68 (some (.c (.int .i64 (.ofNat 1)))) none none)),
  .mk true [p8, p67] [p8] true (.mk none none (.st 2 t8 t67)),
  .mk true [p69] [p6] true (.mk (some p6) none (.mv t69))]) (.seq (.drw [.mk true [p6] [p71] true (.mk (some p71) none (.mv t6)),
  .mk true [p71] [p72] true (.mk (some p72) none (.len t71)),
  .mk true [p72] [p73] true (.mk (some p73) none (.bin .eq t72 (.c (.int .i64 (.ofNat 0))))),
  .mk true [p73] [p74] true (.mk (some p74) none (.mv t73)),
  .mk true [p7, p74] [p75] true (.mk (some p75) (some (p74, false)) (.mv t7)),
  .mk true [p75, p74] [p76] true (.mk (some p76) (some (p74, false)) (.ia 2 t75 (.c (.int .i64 (.ofNat 0))))),
  .mk true [p76, p74] [p77] true (.mk (some p77) (some (p74, false)) (.fa 0 t76)),
  .mk true [p77, p74] [p78] true (.mk (some p78) (some (p74, false)) (.ld t77)),
  .mk true [p6, p74] [p79] true (.mk (some p79) (some (p74, false)) (.mv t6)),
  .mk true [p79, p74] [p80] true (.mk (some p80) (some (p74, false)) (.ia 2 t79 (.c (.int .i64 (.ofNat 0))))),
  .mk true [p80, p74] [p81] true (.mk (some p81) (some (p74, false)) (.fa 0 t80)),
  .mk true [p81, p74] [p82] true (.mk (some p82) (some (p74, false)) (.ld t81)),
  .mk true [p78, p82, p74] [p83] true (.mk (some p83) (some (p74, false)) (.bin .lt t78 t82)),
  .mk true [p74, p83] [p84] true (.mk (some p84) none (.pick t74 (.c (.bool true)) t83)),
  .mk true [p84] [p70] true (.mk (some p70) none (.mv t84))])
 (.cond t70 (.drw [.mk true [p7] [p85] true (.mk (some p85) none (.mv t7)),
  .mk true [p85] [p86] true (.mk (some p86) none (.ia 2 t85 (.c (.int .i64 (.ofNat 0))))),
  .mk true [p86] [p87] true (.mk (some p87) none (.lda 2 t86)),
  .mk true [p7] [p88] true (.mk (some p88) none (.mv t7)),
  .mk true [p88] [p89] true (.mk (some p89) none (.sla 2 t88 (some (.c (.int .i64 (.ofNat 1)))) none none)),
  .mk true [p8, p87] [p8] true (.mk none none (.st 2 t8 t87)),
  .mk true [p89] [p7] true (.mk (some p7) none (.mv t89))]) (.seq (.drw [.mk true [p6] [p27] true (.mk (some p27) none (.mv t6)),
  .mk true [p27] [p28] true (.mk (some p28) none (.ia 2 t27 (.c (.int .i64 (.ofNat 0))))),
  .mk true [p28] [p29] true (.mk (some p29) none (.fa 0 t28)),
  .mk true [p29] [p30] true (.mk (some p30) none (.ld t29)),
  .mk true [p6] [p31] true (.mk (some p31) none (.mv t6)),
  .mk true [p31] [p32] true (.mk (some p32) none (.ia 2 t31 (.c (.int .i64 (.ofNat 0))))),
  .mk true [p32] [p33] true (.mk (some p33) none (.fa 1 t32)),
  .mk true [p33] [p34] true (.mk (some p34) none (.ld t33)),
  .mk true [p7] [p35] true (.mk (some p35) none (.mv t7)),
  .mk true [p35] [p36] true (.mk (some p36) none (.ia 2 t35 (.c (.int .i64 (.ofNat 0))))),
  .mk true [p36] [p37] true (.mk (some p37) none (.fa 1 t36)),
  .mk true [p37] [p38] true (.mk (some p38) none (.ld t37)),
  .mk true [p34, p38] [p39] true (.mk (some p39) none (.bin .add t34 t38)),
  .mk true [p30, p39] [p40] true (.mk (some p40) none (.bld [(.int .i64 (.ofNat 0)), (.int .i64 (.ofNat 0))] [(0, 1, t30), (1, 1, t39)])),
  .mk true [p8, p40] [p8] true (.mk none none (.st 2 t8 t40))])
 (.drw [.mk true [p6] [p41] true (.mk (some p41) none (.mv t6)),
  .mk true [p41] [p42] true (.mk (some p42) none (.sla 2 t41 (some (.c (.int .i64 (.ofNat 1)))) none none)),
  .mk true [p7] [p43] true (.mk (some p43) none (.mv t7)),
  .mk true [p43] [p44] true (.mk (some p44) none (.sla 2 t43 (some (.c (.int .i64 (.ofNat 1)))) none none)),
  .mk true [p42] [p6] true (.mk (some p6) none (.mv t42)),
  .mk true [p44] [p7] true (.mk (some p7) none (.mv t44))])))))))
 (.seq (.reg [.mk (some p90) none (.fa 1 t8),
  .mk (some p91) none (.ld t90),
  .mk (some p92) none (.bin .ne t91 (.c (.int .i64 (.ofNat 0))))])
 (.cond t92 (.reg [.mk (some p93) none (.fa 1 t5),
  .mk (some p94) none (.ld t93),
  .mk (some p95) none (.lda 2 t8),
  .mk (some p96) none (.bsl 1 2 [(.int .i64 (.ofNat 0)), (.int .i64 (.ofNat 0))] [(0, 2, t95)]),
  .mk (some p97) none (.app 2 16 t94 t96),
  .mk (some p98) none (.fa 1 t5),
  .mk none none (.st 1 t98 t97)]) .skip))))))))
 (.seq (.reg [.mk (some p99) none (.lda 2 t5),
  .mk none none (.st 2 t4 t99)])
 .ret)))))
 [.cell p4 (some 2)]
def ls110 : List Nat := [2, 3, 4, 5, 8]

/- delver/term.fits -/
def f109 : Fd := .mk [p0]
 (.seq (.reg [.locb p1 t0,
  .loc p2 [(.int .i64 (.ofNat 0)), .nils],
  .mk (some p3) none (.mv (.c (.int .i64 (.ofNat 0))))])
 (.seq (.seq (.reg [.mk (some p4) none (.lda 2 t1),
  .mk (some p5) none (.call p66 [t4]),
  .mk (some p6) none (.bin .ne t5 (.c (.int .i64 (.ofNat 0))))])
 (.cond t6 (.seq (.reg [.mk (some p7) none (.bld [(.int .i64 (.ofNat 0)), .nils] []),
  .mk none none (.st 2 t2 t7),
  .mk (some p3) none (.mv (.c (.int .i64 (.ofNat 12))))])
 .ret) .skip))
 (.seq (.reg [.mk (some p8) none (.lda 2 t1),
  .mk none none (.st 2 t2 t8),
  .mk (some p3) none (.mv (.c (.int .i64 (.ofNat 0))))])
 .ret)))
 [.cell p2 (some 2), .t p3]
def ls109 : List Nat := [1, 2]

/- delver/term.room -/
def f91 : Fd := .mk [p0, p1]
 (.seq (.reg [.mk (some p4) none (.mv (.c (.bool false)))])
 (.seq (.reg [.mk (some p5) none (.mv t0),
  .mk (some p6) none (.mv t1),
  .mk (some p7) none (.neg t6),
  .mk (some p8) none (.bin .ge t5 t7),
  .mk (some p9) none (.mv t8),
  .mk (some p10) (some (p9, true)) (.mv t0),
  .mk (some p11) (some (p9, true)) (.mv t1),
  .mk (some p12) (some (p9, true)) (.bin .le t10 t11),
  .mk (some p13) none (.pick t9 t12 (.c (.bool false))),
  .mk (some p4) none (.mv t13)])
 .ret))
 [.t p4]
def ls91 : List Nat := []

def FT : Tr Fd := (.nd none (.nd none (.nd (some f3) (.nd none (.nd (some f15) (.nd none (.nd (some f63) .nl .nl) (.nd (some f95) .nl .nl)) .nl) (.nd none .nl (.nd (some f55) (.nd (some f87) .nl .nl) .nl))) (.nd none (.nd (some f19) (.nd (some f35) .nl .nl) (.nd (some f51) (.nd (some f83) .nl .nl) .nl)) (.nd none (.nd none .nl (.nd (some f107) .nl .nl)) (.nd (some f59) (.nd (some f91) .nl .nl) .nl)))) (.nd none (.nd none (.nd (some f17) (.nd none (.nd (some f65) .nl .nl) .nl) (.nd (some f49) .nl .nl)) (.nd (some f25) .nl (.nd none (.nd (some f89) .nl .nl) .nl))) (.nd none (.nd (some f21) (.nd none (.nd (some f69) .nl .nl) .nl) (.nd (some f53) (.nd (some f85) .nl .nl) .nl)) (.nd none (.nd none (.nd (some f77) .nl .nl) (.nd (some f109) .nl .nl)) (.nd (some f61) .nl .nl))))) (.nd none (.nd (some f4) (.nd none (.nd (some f16) (.nd none (.nd (some f64) .nl .nl) .nl) (.nd (some f48) .nl .nl)) (.nd (some f24) .nl (.nd (some f56) (.nd (some f88) .nl .nl) .nl))) (.nd none (.nd (some f20) .nl (.nd (some f52) (.nd (some f84) .nl .nl) .nl)) (.nd (some f28) (.nd none .nl (.nd (some f108) .nl .nl)) (.nd (some f60) .nl .nl)))) (.nd none (.nd none (.nd (some f18) (.nd none (.nd (some f66) .nl .nl) .nl) (.nd (some f50) (.nd (some f82) .nl .nl) .nl)) (.nd none (.nd none .nl (.nd (some f106) .nl .nl)) (.nd (some f58) (.nd (some f90) .nl .nl) .nl))) (.nd none (.nd (some f22) .nl (.nd (some f54) (.nd (some f86) .nl .nl) .nl)) (.nd none (.nd none .nl (.nd (some f110) .nl .nl)) (.nd (some f62) .nl .nl))))))

end Go.Proofs.Ythdlkpmhjbaplaa.Dx
