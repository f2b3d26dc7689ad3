/- The small machine's code of this seat's functions, printed by a program (Gen.lean, tw3.py). No statement of this seat is proved here. -/
import Derived.Test.YtnoekfkfinjfgaaGreatDoorUa
set_option autoImplicit false
set_option maxRecDepth 100000
noncomputable section
namespace Go.Proofs.YtnoekfkfinjfgaaGreatDoor.Dx
open Go

abbrev mI (d : P) (i : Ins) : Op := .mk (some d) none i
abbrev p0 : P := .z
abbrev t0 : Opd := .t p0
abbrev p1 : P := (.l .z)
abbrev t1 : Opd := .t p1
abbrev p2 : P := (.r .z)
abbrev t2 : Opd := .t p2
abbrev p3 : P := (.l (.l .z))
abbrev t3 : Opd := .t p3
abbrev p4 : P := (.r (.l .z))
abbrev t4 : Opd := .t p4
abbrev p5 : P := (.l (.r .z))
abbrev t5 : Opd := .t p5
abbrev p6 : P := (.r (.r .z))
abbrev t6 : Opd := .t p6
abbrev p7 : P := (.l (.l (.l .z)))
abbrev t7 : Opd := .t p7
abbrev p8 : P := (.r (.l (.l .z)))
abbrev t8 : Opd := .t p8
abbrev p9 : P := (.l (.r (.l .z)))
abbrev t9 : Opd := .t p9
abbrev p10 : P := (.r (.r (.l .z)))
abbrev t10 : Opd := .t p10
abbrev p11 : P := (.l (.l (.r .z)))
abbrev t11 : Opd := .t p11
abbrev p12 : P := (.r (.l (.r .z)))
abbrev t12 : Opd := .t p12
abbrev p13 : P := (.l (.r (.r .z)))
abbrev t13 : Opd := .t p13
abbrev p14 : P := (.r (.r (.r .z)))
abbrev t14 : Opd := .t p14
abbrev p15 : P := (.l (.l (.l (.l .z))))
abbrev t15 : Opd := .t p15
abbrev p16 : P := (.r (.l (.l (.l .z))))
abbrev t16 : Opd := .t p16
abbrev p17 : P := (.l (.r (.l (.l .z))))
abbrev t17 : Opd := .t p17
abbrev p18 : P := (.r (.r (.l (.l .z))))
abbrev t18 : Opd := .t p18
abbrev p19 : P := (.l (.l (.r (.l .z))))
abbrev t19 : Opd := .t p19
abbrev p20 : P := (.r (.l (.r (.l .z))))
abbrev t20 : Opd := .t p20
abbrev p21 : P := (.l (.r (.r (.l .z))))
abbrev t21 : Opd := .t p21
abbrev p22 : P := (.r (.r (.r (.l .z))))
abbrev t22 : Opd := .t p22
abbrev p23 : P := (.l (.l (.l (.r .z))))
abbrev t23 : Opd := .t p23
abbrev p24 : P := (.r (.l (.l (.r .z))))
abbrev t24 : Opd := .t p24
abbrev p25 : P := (.l (.r (.l (.r .z))))
abbrev t25 : Opd := .t p25
abbrev p26 : P := (.r (.r (.l (.r .z))))
abbrev t26 : Opd := .t p26
abbrev p27 : P := (.l (.l (.r (.r .z))))
abbrev t27 : Opd := .t p27
abbrev p28 : P := (.r (.l (.r (.r .z))))
abbrev t28 : Opd := .t p28
abbrev p29 : P := (.l (.r (.r (.r .z))))
abbrev t29 : Opd := .t p29
abbrev p30 : P := (.r (.r (.r (.r .z))))
abbrev t30 : Opd := .t p30
abbrev p31 : P := (.l (.l (.l (.l (.l .z)))))
abbrev t31 : Opd := .t p31
abbrev p32 : P := (.r (.l (.l (.l (.l .z)))))
abbrev t32 : Opd := .t p32
abbrev p33 : P := (.l (.r (.l (.l (.l .z)))))
abbrev t33 : Opd := .t p33
abbrev p34 : P := (.r (.r (.l (.l (.l .z)))))
abbrev t34 : Opd := .t p34
abbrev p35 : P := (.l (.l (.r (.l (.l .z)))))
abbrev t35 : Opd := .t p35
abbrev p36 : P := (.r (.l (.r (.l (.l .z)))))
abbrev t36 : Opd := .t p36
abbrev p37 : P := (.l (.r (.r (.l (.l .z)))))
abbrev t37 : Opd := .t p37
abbrev p38 : P := (.r (.r (.r (.l (.l .z)))))
abbrev t38 : Opd := .t p38
abbrev p39 : P := (.l (.l (.l (.r (.l .z)))))
abbrev t39 : Opd := .t p39
abbrev p40 : P := (.r (.l (.l (.r (.l .z)))))
abbrev t40 : Opd := .t p40
abbrev p41 : P := (.l (.r (.l (.r (.l .z)))))
abbrev t41 : Opd := .t p41
abbrev p42 : P := (.r (.r (.l (.r (.l .z)))))
abbrev t42 : Opd := .t p42
abbrev p43 : P := (.l (.l (.r (.r (.l .z)))))
abbrev t43 : Opd := .t p43
abbrev p44 : P := (.r (.l (.r (.r (.l .z)))))
abbrev t44 : Opd := .t p44
abbrev p45 : P := (.l (.r (.r (.r (.l .z)))))
abbrev t45 : Opd := .t p45
abbrev p46 : P := (.r (.r (.r (.r (.l .z)))))
abbrev t46 : Opd := .t p46
abbrev p47 : P := (.l (.l (.l (.l (.r .z)))))
abbrev t47 : Opd := .t p47
abbrev p48 : P := (.r (.l (.l (.l (.r .z)))))
abbrev t48 : Opd := .t p48
abbrev p49 : P := (.l (.r (.l (.l (.r .z)))))
abbrev t49 : Opd := .t p49
abbrev p50 : P := (.r (.r (.l (.l (.r .z)))))
abbrev t50 : Opd := .t p50
abbrev p51 : P := (.l (.l (.r (.l (.r .z)))))
abbrev t51 : Opd := .t p51
abbrev p52 : P := (.r (.l (.r (.l (.r .z)))))
abbrev t52 : Opd := .t p52
abbrev p53 : P := (.l (.r (.r (.l (.r .z)))))
abbrev t53 : Opd := .t p53
abbrev p54 : P := (.r (.r (.r (.l (.r .z)))))
abbrev t54 : Opd := .t p54
abbrev p55 : P := (.l (.l (.l (.r (.r .z)))))
abbrev t55 : Opd := .t p55
abbrev p56 : P := (.r (.l (.l (.r (.r .z)))))
abbrev t56 : Opd := .t p56
abbrev p57 : P := (.l (.r (.l (.r (.r .z)))))
abbrev t57 : Opd := .t p57
abbrev p58 : P := (.r (.r (.l (.r (.r .z)))))
abbrev t58 : Opd := .t p58
abbrev p59 : P := (.l (.l (.r (.r (.r .z)))))
abbrev t59 : Opd := .t p59
abbrev p60 : P := (.r (.l (.r (.r (.r .z)))))
abbrev t60 : Opd := .t p60
abbrev p61 : P := (.l (.r (.r (.r (.r .z)))))
abbrev t61 : Opd := .t p61
abbrev p62 : P := (.r (.r (.r (.r (.r .z)))))
abbrev t62 : Opd := .t p62
abbrev p63 : P := (.l (.l (.l (.l (.l (.l .z))))))
abbrev t63 : Opd := .t p63
abbrev p64 : P := (.r (.l (.l (.l (.l (.l .z))))))
abbrev t64 : Opd := .t p64
abbrev p65 : P := (.l (.r (.l (.l (.l (.l .z))))))
abbrev t65 : Opd := .t p65
abbrev p66 : P := (.r (.r (.l (.l (.l (.l .z))))))
abbrev t66 : Opd := .t p66
abbrev p67 : P := (.l (.l (.r (.l (.l (.l .z))))))
abbrev t67 : Opd := .t p67
abbrev p68 : P := (.r (.l (.r (.l (.l (.l .z))))))
abbrev t68 : Opd := .t p68
abbrev p69 : P := (.l (.r (.r (.l (.l (.l .z))))))
abbrev t69 : Opd := .t p69
abbrev p70 : P := (.r (.r (.r (.l (.l (.l .z))))))
abbrev t70 : Opd := .t p70
abbrev p71 : P := (.l (.l (.l (.r (.l (.l .z))))))
abbrev t71 : Opd := .t p71
abbrev p72 : P := (.r (.l (.l (.r (.l (.l .z))))))
abbrev t72 : Opd := .t p72
abbrev p73 : P := (.l (.r (.l (.r (.l (.l .z))))))
abbrev t73 : Opd := .t p73
abbrev p74 : P := (.r (.r (.l (.r (.l (.l .z))))))
abbrev t74 : Opd := .t p74
abbrev p75 : P := (.l (.l (.r (.r (.l (.l .z))))))
abbrev t75 : Opd := .t p75
abbrev p76 : P := (.r (.l (.r (.r (.l (.l .z))))))
abbrev t76 : Opd := .t p76
abbrev p77 : P := (.l (.r (.r (.r (.l (.l .z))))))
abbrev t77 : Opd := .t p77
abbrev p78 : P := (.r (.r (.r (.r (.l (.l .z))))))
abbrev t78 : Opd := .t p78
abbrev p79 : P := (.l (.l (.l (.l (.r (.l .z))))))
abbrev t79 : Opd := .t p79
abbrev p80 : P := (.r (.l (.l (.l (.r (.l .z))))))
abbrev t80 : Opd := .t p80
abbrev p81 : P := (.l (.r (.l (.l (.r (.l .z))))))
abbrev t81 : Opd := .t p81
abbrev p82 : P := (.r (.r (.l (.l (.r (.l .z))))))
abbrev t82 : Opd := .t p82
abbrev p83 : P := (.l (.l (.r (.l (.r (.l .z))))))
abbrev t83 : Opd := .t p83
abbrev p84 : P := (.r (.l (.r (.l (.r (.l .z))))))
abbrev t84 : Opd := .t p84
abbrev p85 : P := (.l (.r (.r (.l (.r (.l .z))))))
abbrev t85 : Opd := .t p85
abbrev p86 : P := (.r (.r (.r (.l (.r (.l .z))))))
abbrev t86 : Opd := .t p86
abbrev p87 : P := (.l (.l (.l (.r (.r (.l .z))))))
abbrev t87 : Opd := .t p87
abbrev p88 : P := (.r (.l (.l (.r (.r (.l .z))))))
abbrev t88 : Opd := .t p88
abbrev p89 : P := (.l (.r (.l (.r (.r (.l .z))))))
abbrev t89 : Opd := .t p89
abbrev p90 : P := (.r (.r (.l (.r (.r (.l .z))))))
abbrev t90 : Opd := .t p90
abbrev p91 : P := (.l (.l (.r (.r (.r (.l .z))))))
abbrev t91 : Opd := .t p91
abbrev p92 : P := (.r (.l (.r (.r (.r (.l .z))))))
abbrev t92 : Opd := .t p92
abbrev p93 : P := (.l (.r (.r (.r (.r (.l .z))))))
abbrev t93 : Opd := .t p93
abbrev p94 : P := (.r (.r (.r (.r (.r (.l .z))))))
abbrev t94 : Opd := .t p94
abbrev p95 : P := (.l (.l (.l (.l (.l (.r .z))))))
abbrev t95 : Opd := .t p95
abbrev p96 : P := (.r (.l (.l (.l (.l (.r .z))))))
abbrev t96 : Opd := .t p96
abbrev p97 : P := (.l (.r (.l (.l (.l (.r .z))))))
abbrev t97 : Opd := .t p97
abbrev p98 : P := (.r (.r (.l (.l (.l (.r .z))))))
abbrev t98 : Opd := .t p98
abbrev p99 : P := (.l (.l (.r (.l (.l (.r .z))))))
abbrev t99 : Opd := .t p99
abbrev p100 : P := (.r (.l (.r (.l (.l (.r .z))))))
abbrev t100 : Opd := .t p100
abbrev p101 : P := (.l (.r (.r (.l (.l (.r .z))))))
abbrev t101 : Opd := .t p101
abbrev p102 : P := (.r (.r (.r (.l (.l (.r .z))))))
abbrev t102 : Opd := .t p102
abbrev p103 : P := (.l (.l (.l (.r (.l (.r .z))))))
abbrev t103 : Opd := .t p103
abbrev p104 : P := (.r (.l (.l (.r (.l (.r .z))))))
abbrev t104 : Opd := .t p104
abbrev p105 : P := (.l (.r (.l (.r (.l (.r .z))))))
abbrev t105 : Opd := .t p105
abbrev p106 : P := (.r (.r (.l (.r (.l (.r .z))))))
abbrev t106 : Opd := .t p106
abbrev p107 : P := (.l (.l (.r (.r (.l (.r .z))))))
abbrev t107 : Opd := .t p107
abbrev p108 : P := (.r (.l (.r (.r (.l (.r .z))))))
abbrev t108 : Opd := .t p108
abbrev p109 : P := (.l (.r (.r (.r (.l (.r .z))))))
abbrev t109 : Opd := .t p109
abbrev p110 : P := (.r (.r (.r (.r (.l (.r .z))))))
abbrev t110 : Opd := .t p110
abbrev p111 : P := (.l (.l (.l (.l (.r (.r .z))))))
abbrev t111 : Opd := .t p111
abbrev p112 : P := (.r (.l (.l (.l (.r (.r .z))))))
abbrev t112 : Opd := .t p112
abbrev p113 : P := (.l (.r (.l (.l (.r (.r .z))))))
abbrev t113 : Opd := .t p113
abbrev p114 : P := (.r (.r (.l (.l (.r (.r .z))))))
abbrev t114 : Opd := .t p114
abbrev p115 : P := (.l (.l (.r (.l (.r (.r .z))))))
abbrev t115 : Opd := .t p115
abbrev p116 : P := (.r (.l (.r (.l (.r (.r .z))))))
abbrev t116 : Opd := .t p116
abbrev p117 : P := (.l (.r (.r (.l (.r (.r .z))))))
abbrev t117 : Opd := .t p117
abbrev p118 : P := (.r (.r (.r (.l (.r (.r .z))))))
abbrev t118 : Opd := .t p118
abbrev p119 : P := (.l (.l (.l (.r (.r (.r .z))))))
abbrev t119 : Opd := .t p119
abbrev p120 : P := (.r (.l (.l (.r (.r (.r .z))))))
abbrev t120 : Opd := .t p120
abbrev p121 : P := (.l (.r (.l (.r (.r (.r .z))))))
abbrev t121 : Opd := .t p121
abbrev p122 : P := (.r (.r (.l (.r (.r (.r .z))))))
abbrev t122 : Opd := .t p122
abbrev p123 : P := (.l (.l (.r (.r (.r (.r .z))))))
abbrev t123 : Opd := .t p123
abbrev p124 : P := (.r (.l (.r (.r (.r (.r .z))))))
abbrev t124 : Opd := .t p124
abbrev p125 : P := (.l (.r (.r (.r (.r (.r .z))))))
abbrev t125 : Opd := .t p125
abbrev p126 : P := (.r (.r (.r (.r (.r (.r .z))))))
abbrev t126 : Opd := .t p126
abbrev p127 : P := (.l (.l (.l (.l (.l (.l (.l .z)))))))
abbrev t127 : Opd := .t p127
abbrev p128 : P := (.r (.l (.l (.l (.l (.l (.l .z)))))))
abbrev t128 : Opd := .t p128
abbrev p129 : P := (.l (.r (.l (.l (.l (.l (.l .z)))))))
abbrev t129 : Opd := .t p129
abbrev p130 : P := (.r (.r (.l (.l (.l (.l (.l .z)))))))
abbrev t130 : Opd := .t p130
abbrev p131 : P := (.l (.l (.r (.l (.l (.l (.l .z)))))))
abbrev t131 : Opd := .t p131
abbrev p132 : P := (.r (.l (.r (.l (.l (.l (.l .z)))))))
abbrev t132 : Opd := .t p132
abbrev p133 : P := (.l (.r (.r (.l (.l (.l (.l .z)))))))
abbrev t133 : Opd := .t p133
abbrev p134 : P := (.r (.r (.r (.l (.l (.l (.l .z)))))))
abbrev t134 : Opd := .t p134
abbrev p135 : P := (.l (.l (.l (.r (.l (.l (.l .z)))))))
abbrev t135 : Opd := .t p135
abbrev p136 : P := (.r (.l (.l (.r (.l (.l (.l .z)))))))
abbrev t136 : Opd := .t p136
abbrev p137 : P := (.l (.r (.l (.r (.l (.l (.l .z)))))))
abbrev t137 : Opd := .t p137
abbrev p138 : P := (.r (.r (.l (.r (.l (.l (.l .z)))))))
abbrev t138 : Opd := .t p138
abbrev p139 : P := (.l (.l (.r (.r (.l (.l (.l .z)))))))
abbrev p140 : P := (.r (.l (.r (.r (.l (.l (.l .z)))))))
abbrev p141 : P := (.l (.r (.r (.r (.l (.l (.l .z)))))))
abbrev p142 : P := (.r (.r (.r (.r (.l (.l (.l .z)))))))
abbrev p143 : P := (.l (.l (.l (.l (.r (.l (.l .z)))))))
abbrev t143 : Opd := .t p143
abbrev p144 : P := (.r (.l (.l (.l (.r (.l (.l .z)))))))
abbrev t144 : Opd := .t p144
abbrev p145 : P := (.l (.r (.l (.l (.r (.l (.l .z)))))))
abbrev p146 : P := (.r (.r (.l (.l (.r (.l (.l .z)))))))
abbrev p147 : P := (.l (.l (.r (.l (.r (.l (.l .z)))))))
abbrev p148 : P := (.r (.l (.r (.l (.r (.l (.l .z)))))))
abbrev p149 : P := (.l (.r (.r (.l (.r (.l (.l .z)))))))
abbrev p150 : P := (.r (.r (.r (.l (.r (.l (.l .z)))))))
abbrev p151 : P := (.l (.l (.l (.r (.r (.l (.l .z)))))))
abbrev p152 : P := (.r (.l (.l (.r (.r (.l (.l .z)))))))
abbrev p153 : P := (.l (.r (.l (.r (.r (.l (.l .z)))))))
abbrev p154 : P := (.r (.r (.l (.r (.r (.l (.l .z)))))))
abbrev p155 : P := (.l (.l (.r (.r (.r (.l (.l .z)))))))
abbrev p159 : P := (.l (.l (.l (.l (.l (.r (.l .z)))))))
abbrev t159 : Opd := .t p159
abbrev p161 : P := (.l (.r (.l (.l (.l (.r (.l .z)))))))
abbrev p165 : P := (.l (.r (.r (.l (.l (.r (.l .z)))))))
abbrev p174 : P := (.r (.r (.r (.r (.l (.r (.l .z)))))))
abbrev p176 : P := (.r (.l (.l (.l (.r (.r (.l .z)))))))
abbrev p177 : P := (.l (.r (.l (.l (.r (.r (.l .z)))))))
abbrev t177 : Opd := .t p177
abbrev p183 : P := (.l (.l (.l (.r (.r (.r (.l .z)))))))
abbrev p203 : P := (.l (.l (.r (.r (.l (.l (.r .z)))))))
abbrev p204 : P := (.r (.l (.r (.r (.l (.l (.r .z)))))))
abbrev p205 : P := (.l (.r (.r (.r (.l (.l (.r .z)))))))
abbrev p206 : P := (.r (.r (.r (.r (.l (.l (.r .z)))))))
abbrev p207 : P := (.l (.l (.l (.l (.r (.l (.r .z)))))))
abbrev p208 : P := (.r (.l (.l (.l (.r (.l (.r .z)))))))
abbrev p209 : P := (.l (.r (.l (.l (.r (.l (.r .z)))))))
abbrev p210 : P := (.r (.r (.l (.l (.r (.l (.r .z)))))))
abbrev p211 : P := (.l (.l (.r (.l (.r (.l (.r .z)))))))
abbrev p212 : P := (.r (.l (.r (.l (.r (.l (.r .z)))))))
abbrev p213 : P := (.l (.r (.r (.l (.r (.l (.r .z)))))))
abbrev p214 : P := (.r (.r (.r (.l (.r (.l (.r .z)))))))
abbrev p215 : P := (.l (.l (.l (.r (.r (.l (.r .z)))))))
abbrev p217 : P := (.l (.r (.l (.r (.r (.l (.r .z)))))))
abbrev p218 : P := (.r (.r (.l (.r (.r (.l (.r .z)))))))
abbrev p219 : P := (.l (.l (.r (.r (.r (.l (.r .z)))))))
abbrev p220 : P := (.r (.l (.r (.r (.r (.l (.r .z)))))))
abbrev p221 : P := (.l (.r (.r (.r (.r (.l (.r .z)))))))
abbrev p222 : P := (.r (.r (.r (.r (.r (.l (.r .z)))))))
abbrev p224 : P := (.r (.l (.l (.l (.l (.r (.r .z)))))))
abbrev p266 : P := (.r (.r (.l (.r (.l (.l (.l (.l .z))))))))
abbrev p267 : P := (.l (.l (.r (.r (.l (.l (.l (.l .z))))))))
abbrev p268 : P := (.r (.l (.r (.r (.l (.l (.l (.l .z))))))))
abbrev p269 : P := (.l (.r (.r (.r (.l (.l (.l (.l .z))))))))
abbrev p270 : P := (.r (.r (.r (.r (.l (.l (.l (.l .z))))))))
abbrev p271 : P := (.l (.l (.l (.l (.r (.l (.l (.l .z))))))))
abbrev p272 : P := (.r (.l (.l (.l (.r (.l (.l (.l .z))))))))
abbrev p275 : P := (.l (.l (.r (.l (.r (.l (.l (.l .z))))))))
abbrev p276 : P := (.r (.l (.r (.l (.r (.l (.l (.l .z))))))))
abbrev p277 : P := (.l (.r (.r (.l (.r (.l (.l (.l .z))))))))
abbrev p278 : P := (.r (.r (.r (.l (.r (.l (.l (.l .z))))))))
abbrev p280 : P := (.r (.l (.l (.r (.r (.l (.l (.l .z))))))))
abbrev p281 : P := (.l (.r (.l (.r (.r (.l (.l (.l .z))))))))
abbrev p282 : P := (.r (.r (.l (.r (.r (.l (.l (.l .z))))))))
abbrev p283 : P := (.l (.l (.r (.r (.r (.l (.l (.l .z))))))))
abbrev p284 : P := (.r (.l (.r (.r (.r (.l (.l (.l .z))))))))
abbrev p285 : P := (.l (.r (.r (.r (.r (.l (.l (.l .z))))))))
abbrev p286 : P := (.r (.r (.r (.r (.r (.l (.l (.l .z))))))))
abbrev p287 : P := (.l (.l (.l (.l (.l (.r (.l (.l .z))))))))
abbrev p288 : P := (.r (.l (.l (.l (.l (.r (.l (.l .z))))))))
abbrev p314 : P := (.r (.r (.l (.r (.r (.r (.l (.l .z))))))))
abbrev p315 : P := (.l (.l (.r (.r (.r (.r (.l (.l .z))))))))
abbrev p316 : P := (.r (.l (.r (.r (.r (.r (.l (.l .z))))))))
abbrev p317 : P := (.l (.r (.r (.r (.r (.r (.l (.l .z))))))))
abbrev p318 : P := (.r (.r (.r (.r (.r (.r (.l (.l .z))))))))
abbrev p319 : P := (.l (.l (.l (.l (.l (.l (.r (.l .z))))))))
abbrev p320 : P := (.r (.l (.l (.l (.l (.l (.r (.l .z))))))))
abbrev p321 : P := (.l (.r (.l (.l (.l (.l (.r (.l .z))))))))
abbrev p322 : P := (.r (.r (.l (.l (.l (.l (.r (.l .z))))))))
abbrev p323 : P := (.l (.l (.r (.l (.l (.l (.r (.l .z))))))))
abbrev p324 : P := (.r (.l (.r (.l (.l (.l (.r (.l .z))))))))
abbrev p325 : P := (.l (.r (.r (.l (.l (.l (.r (.l .z))))))))
abbrev p326 : P := (.r (.r (.r (.l (.l (.l (.r (.l .z))))))))
abbrev p327 : P := (.l (.l (.l (.r (.l (.l (.r (.l .z))))))))
abbrev p329 : P := (.l (.r (.l (.r (.l (.l (.r (.l .z))))))))
abbrev p339 : P := (.l (.l (.r (.l (.r (.l (.r (.l .z))))))))
abbrev p341 : P := (.l (.r (.r (.l (.r (.l (.r (.l .z))))))))
abbrev p342 : P := (.r (.r (.r (.l (.r (.l (.r (.l .z))))))))
abbrev p343 : P := (.l (.l (.l (.r (.r (.l (.r (.l .z))))))))
abbrev p345 : P := (.l (.r (.l (.r (.r (.l (.r (.l .z))))))))
abbrev p346 : P := (.r (.r (.l (.r (.r (.l (.r (.l .z))))))))
abbrev p349 : P := (.l (.r (.r (.r (.r (.l (.r (.l .z))))))))
abbrev p367 : P := (.l (.l (.l (.l (.r (.r (.r (.l .z))))))))
abbrev p368 : P := (.r (.l (.l (.l (.r (.r (.r (.l .z))))))))
abbrev p369 : P := (.l (.r (.l (.l (.r (.r (.r (.l .z))))))))
abbrev p370 : P := (.r (.r (.l (.l (.r (.r (.r (.l .z))))))))
abbrev p371 : P := (.l (.l (.r (.l (.r (.r (.r (.l .z))))))))
abbrev p372 : P := (.r (.l (.r (.l (.r (.r (.r (.l .z))))))))
abbrev p373 : P := (.l (.r (.r (.l (.r (.r (.r (.l .z))))))))
abbrev p374 : P := (.r (.r (.r (.l (.r (.r (.r (.l .z))))))))
abbrev p375 : P := (.l (.l (.l (.r (.r (.r (.r (.l .z))))))))
abbrev p376 : P := (.r (.l (.l (.r (.r (.r (.r (.l .z))))))))
abbrev p377 : P := (.l (.r (.l (.r (.r (.r (.r (.l .z))))))))
abbrev p378 : P := (.r (.r (.l (.r (.r (.r (.r (.l .z))))))))
abbrev p390 : P := (.r (.r (.r (.l (.l (.l (.l (.r .z))))))))
abbrev p400 : P := (.r (.l (.l (.l (.r (.l (.l (.r .z))))))))
abbrev p401 : P := (.l (.r (.l (.l (.r (.l (.l (.r .z))))))))
abbrev p403 : P := (.l (.l (.r (.l (.r (.l (.l (.r .z))))))))

/- delver/delverlaw21.WalkStraight -/
def f3 : Fd := .mk [p0]
 (.seq (.reg [(mI p2 (.mv (.c (.bool false))))])
 (.seq (.seq (.reg [(mI p14 (.mv t0)),
 (mI p15 (.len t14)),
 (mI p16 (.bin .eq t15 (.c (.int .i64 (.ofNat 0))))),
 (mI p17 (.mv t16)),
 (.mk (some p18) (some (p17, false)) (.mv t0)),
 (.mk (some p19) (some (p17, false)) (.len t18)),
 (.mk (some p20) (some (p17, false)) (.bin .gt t19 (.c (.int .i64 (.ofNat 20))))),
 (mI p21 (.pick t17 (.c (.bool true)) t20))])
 (.cond t21 (.seq (.reg [(mI p2 (.mv (.c (.bool true))))])
 .ret) .skip))
 (.seq (.reg [(mI p22 (.bld [(.int .i64 (.ofNat 0)), (.int .i64 (.ofNat 0)), (.str 0 0), (.str 0 0)] [(0, 1, (.c (.int .i64 (.ofNat 1)))), (1, 1, (.c (.int .i64 (.ofNat 0))))])),
 (mI p23 (.bsl 1 4 [(.int .i64 (.ofNat 0)), (.int .i64 (.ofNat 0)), (.str 0 0), (.str 0 0)] [(0, 4, t22)])),
 (mI p3 (.mv t23))])
 (.seq (.reg [(mI p4 (.mv (.c (.int .i64 (.ofNat 0)))))])
 (.seq (.seq (.reg [(mI p5 (.mv (.c (.int .i64 (.ofNat 0)))))])
 (.block 0 (.loop [p0, p3, p4, p5] (.seq (.seq (.reg [(mI p24 (.mv t5)),
 (mI p25 (.mv t0)),
 (mI p26 (.len t25)),
 (mI p27 (.bin .lt t24 t26))])
 (.cond t27 .skip (.exit 0)))
 (.seq (.block 1 (.seq (.reg [(mI p30 (.mv t3)),
 (mI p31 (.mv t0)),
 (mI p32 (.mv t5)),
 (mI p33 (.ia 1 t31 t32)),
 (mI p34 (.ld t33)),
 (mI p35 (.bin .rem t34 (.c (.int .i64 (.ofNat 1000))))),
 (mI p36 (.bld [(.int .i64 (.ofNat 0)), (.int .i64 (.ofNat 0)), (.str 0 0), (.str 0 0)] [(0, 1, (.c (.int .i64 (.ofNat 1)))), (1, 1, t35)])),
 (mI p37 (.bld [(.int .i64 (.ofNat 0)), (.int .i64 (.ofNat 0)), (.str 0 0), (.str 0 0)] [(0, 1, (.c (.int .i64 (.ofNat 8))))])),
 (mI p38 (.bsl 2 4 [(.int .i64 (.ofNat 0)), (.int .i64 (.ofNat 0)), (.str 0 0), (.str 0 0), (.int .i64 (.ofNat 0)), (.int .i64 (.ofNat 0)), (.str 0 0), (.str 0 0)] [(0, 4, t36), (4, 4, t37)])),
 (mI p39 (.app 4 48 t30 t38)),
 (mI p3 (.mv t39))])
 (.reg [(mI p40 (.mv t4)),
 (mI p41 (.mv t0)),
 (mI p42 (.mv t5)),
 (mI p43 (.ia 1 t41 t42)),
 (mI p44 (.ld t43)),
 (mI p45 (.bin .rem t44 (.c (.int .i64 (.ofNat 1000))))),
 (mI p46 (.bin .add t40 t45)),
 (mI p4 (.mv t46))])))
 (.reg [(mI p28 (.mv t5)),
 (mI p29 (.bin .add t28 (.c (.int .i64 (.ofNat 1))))),
 (mI p5 (.mv t29))]))))))
 (.seq (.reg [(mI p47 (.mv t3)),
 (mI p48 (.bld [(.int .i64 (.ofNat 0)), (.int .i64 (.ofNat 0)), (.str 0 0), (.str 0 0)] [(0, 1, (.c (.int .i64 (.ofNat 41))))])),
 (mI p49 (.bsl 1 4 [(.int .i64 (.ofNat 0)), (.int .i64 (.ofNat 0)), (.str 0 0), (.str 0 0)] [(0, 4, t48)])),
 (mI p50 (.app 4 48 t47 t49)),
 (mI p3 (.mv t50))])
 (.seq (.reg [(mI p51 (.mv t3)),
 (mI p52 (.call p5 [(.c (.int .i64 (.ofNat 0))), t51])),
 (mI p53 (.call p6 [(.c (.str 1 65)), (.c (.str 1 109)), (.c (.str 0 0))])),
 (.loc p6 [.nils]),
 (.loc p7 [(.str 0 0), (.str 0 0), (.str 0 0), (.int .i64 (.ofNat 0)), (.int .i64 (.ofNat 0)), (.int .i64 (.ofNat 0)), (.int .i64 (.ofNat 0)), (.int .i64 (.ofNat 0))]),
 (.mk none none (.st 1 t6 t52)),
 (.mk none none (.st 8 t7 t53))])
 (.seq (.reg [(mI p54 (.fa 5 t7)),
 (.mk none none (.st 1 t54 (.c (.int .i64 (.ofNat 60)))))])
 (.seq (.reg [(mI p8 (.mv (.c .nils)))])
 (.seq (.seq (.reg [(mI p9 (.mv (.c (.int .i64 (.ofNat 0)))))])
 (.block 2 (.loop [p3, p4, p6, p7, p8, p9] (.seq (.seq (.reg [(mI p55 (.mv t9)),
 (mI p56 (.mv t3)),
 (mI p57 (.len t56)),
 (mI p58 (.bin .lt t55 t57))])
 (.cond t58 .skip (.exit 2)))
 (.seq (.block 3 (.seq (.reg [(mI p62 (.lda 1 t6)),
 (mI p63 (.lda 8 t7)),
 (mI p64 (.mv t8)),
 (mI p65 (.call p7 [t62, t63, t64])),
 (mI p61 (.mv t65)),
 (mI p66 (.ex t61 0)),
 (mI p67 (.ex t61 1)),
 (.loc p10 [.nils, .nils, (.int .i64 (.ofNat 0)), .nils, .nils, (.int .i64 (.ofNat 0)), .nils, .nils, .nils, (.int .i64 (.ofNat 0)), (.int .i64 (.ofNat 0)), (.int .i64 (.ofNat 0)), (.int .i64 (.ofNat 0)), .nils, (.int .i64 (.ofNat 0)), (.int .i64 (.ofNat 0)), (.int .i64 (.ofNat 0)), (.int .i64 (.ofNat 0))]),
 (.mk none none (.st 18 t10 t66)),
 (mI p11 (.mv t67))])
 (.seq (.seq (.reg [(mI p68 (.mv t11)),
 (mI p69 (.bin .ne t68 (.c (.int .i64 (.ofNat 0))))),
 (mI p70 (.mv t69)),
 (.mk (some p71) (some (p70, false)) (.fa 15 t10)),
 (.mk (some p72) (some (p70, false)) (.ld t71)),
 (.mk (some p73) (some (p70, false)) (.bin .ne t72 (.c (.int .i64 (.ofNat 0))))),
 (mI p74 (.pick t70 (.c (.bool true)) t73)),
 (mI p75 (.mv t74)),
 (.mk (some p76) (some (p75, false)) (.fa 17 t10)),
 (.mk (some p77) (some (p75, false)) (.ld t76)),
 (.mk (some p78) (some (p75, false)) (.bin .ne t77 (.c (.int .i64 (.ofNat 1))))),
 (mI p79 (.pick t75 (.c (.bool true)) t78)),
 (mI p80 (.mv t79)),
 (.mk (some p81) (some (p80, false)) (.fa 0 t10)),
 (.mk (some p82) (some (p80, false)) (.fa 9 t81)),
 (.mk (some p83) (some (p80, false)) (.ld t82)),
 (.mk (some p84) (some (p80, false)) (.mv t9)),
 (.mk (some p85) (some (p80, false)) (.bin .ne t83 t84)),
 (mI p86 (.pick t80 (.c (.bool true)) t85))])
 (.cond t86 .bad .skip))
 (.reg [(mI p87 (.mv t8)),
 (mI p88 (.bsl 1 1 [(.int .i64 (.ofNat 0))] [(0, 1, (.c (.int .i64 (.ofNat 0))))])),
 (mI p89 (.app 1 8 t87 t88)),
 (mI p8 (.mv t89))]))))
 (.reg [(mI p59 (.mv t9)),
 (mI p60 (.bin .add t59 (.c (.int .i64 (.ofNat 1))))),
 (mI p9 (.mv t60))]))))))
 (.seq (.reg [(mI p91 (.lda 1 t6)),
 (mI p92 (.lda 8 t7)),
 (mI p93 (.mv t8)),
 (mI p94 (.call p7 [t91, t92, t93])),
 (mI p90 (.mv t94)),
 (mI p95 (.ex t90 0)),
 (mI p96 (.ex t90 1)),
 (.loc p12 [.nils, .nils, (.int .i64 (.ofNat 0)), .nils, .nils, (.int .i64 (.ofNat 0)), .nils, .nils, .nils, (.int .i64 (.ofNat 0)), (.int .i64 (.ofNat 0)), (.int .i64 (.ofNat 0)), (.int .i64 (.ofNat 0)), .nils, (.int .i64 (.ofNat 0)), (.int .i64 (.ofNat 0)), (.int .i64 (.ofNat 0)), (.int .i64 (.ofNat 0))]),
 (.mk none none (.st 18 t12 t95)),
 (mI p13 (.mv t96))])
 (.seq (.reg [(mI p97 (.mv t13)),
 (mI p98 (.bin .eq t97 (.c (.int .i64 (.ofNat 0))))),
 (mI p99 (.mv t98)),
 (.mk (some p100) (some (p99, true)) (.fa 15 t12)),
 (.mk (some p101) (some (p99, true)) (.ld t100)),
 (.mk (some p102) (some (p99, true)) (.bin .eq t101 (.c (.int .i64 (.ofNat 1))))),
 (mI p103 (.pick t99 t102 (.c (.bool false)))),
 (mI p104 (.mv t103)),
 (.mk (some p105) (some (p104, true)) (.fa 0 t12)),
 (.mk (some p106) (some (p104, true)) (.fa 11 t105)),
 (.mk (some p107) (some (p104, true)) (.fa 1 t106)),
 (.mk (some p108) (some (p104, true)) (.fa 1 t107)),
 (.mk (some p109) (some (p104, true)) (.ld t108)),
 (.mk (some p110) (some (p104, true)) (.len t109)),
 (.mk (some p111) (some (p104, true)) (.bin .eq t110 (.c (.int .i64 (.ofNat 0))))),
 (mI p112 (.pick t104 t111 (.c (.bool false)))),
 (mI p113 (.mv t112)),
 (.mk (some p114) (some (p113, true)) (.fa 0 t12)),
 (.mk (some p115) (some (p113, true)) (.fa 11 t114)),
 (.mk (some p116) (some (p113, true)) (.fa 1 t115)),
 (.mk (some p117) (some (p113, true)) (.fa 0 t116)),
 (.mk (some p118) (some (p113, true)) (.ld t117)),
 (.mk (some p119) (some (p113, true)) (.mv t4)),
 (.mk (some p120) (some (p113, true)) (.bin .eq t118 t119)),
 (mI p121 (.pick t113 t120 (.c (.bool false)))),
 (mI p122 (.mv t121)),
 (.mk (some p123) (some (p122, true)) (.fa 0 t12)),
 (.mk (some p124) (some (p122, true)) (.fa 9 t123)),
 (.mk (some p125) (some (p122, true)) (.ld t124)),
 (.mk (some p126) (some (p122, true)) (.mv t3)),
 (.mk (some p127) (some (p122, true)) (.len t126)),
 (.mk (some p128) (some (p122, true)) (.bin .eq t125 t127)),
 (mI p129 (.pick t122 t128 (.c (.bool false)))),
 (mI p130 (.mv t129)),
 (.mk (some p131) (some (p130, true)) (.call p8 [])),
 (mI p132 (.pick t130 t131 (.c (.bool false)))),
 (mI p2 (.mv t132))])
 .ret))))))))))))
 [(.t p2)]
def ls3 : List Nat := [6, 7, 10, 12]

/- delver/delverlaw07.One -/
def f5 : Fd := .mk [p0, p1]
 (.seq (.reg [(.loc p4 [.nils])])
 (.seq (.reg [(mI p5 (.bld [(.int .i64 (.ofNat 0)), (.str 0 0)] [(0, 1, (.c (.int .i64 (.ofNat 2))))])),
 (mI p6 (.mv t0)),
 (mI p7 (.mv t1)),
 (mI p8 (.bld [(.str 0 0), (.bool false), (.bool false), .nils, (.int .i64 (.ofNat 0)), (.str 0 0), (.int .i64 (.ofNat 0)), .nils, .nils] [(0, 1, (.c (.str 1 109))), (1, 1, (.c (.bool true))), (4, 2, t5), (6, 1, t6), (7, 1, t7)])),
 (mI p9 (.bsl 1 9 [(.str 0 0), (.bool false), (.bool false), .nils, (.int .i64 (.ofNat 0)), (.str 0 0), (.int .i64 (.ofNat 0)), .nils, .nils] [(0, 9, t8)])),
 (mI p10 (.bld [(.str 0 0), (.bool false), (.str 0 0), .nils, .nils, .nils] [(0, 1, (.c (.str 1 65))), (5, 1, t9)])),
 (mI p11 (.bsl 1 6 [(.str 0 0), (.bool false), (.str 0 0), .nils, .nils, .nils] [(0, 6, t10)])),
 (mI p12 (.bld [.nils] [(0, 1, t11)])),
 (.mk none none (.st 1 t4 t12))])
 .ret))
 [(.cell p4 (some 1))]
def ls5 : List Nat := [4]

/- delver/delverlaw11.Easy -/
def f6 : Fd := .mk [p0, p1, p2]
 (.seq (.reg [(.loc p6 [(.str 0 0), (.str 0 0), (.str 0 0), (.int .i64 (.ofNat 0)), (.int .i64 (.ofNat 0)), (.int .i64 (.ofNat 0)), (.int .i64 (.ofNat 0)), (.int .i64 (.ofNat 0))])])
 (.seq (.reg [(mI p7 (.mv t0)),
 (mI p8 (.mv t1)),
 (mI p9 (.mv t2)),
 (mI p10 (.bld [(.str 0 0), (.str 0 0), (.str 0 0), (.int .i64 (.ofNat 0)), (.int .i64 (.ofNat 0)), (.int .i64 (.ofNat 0)), (.int .i64 (.ofNat 0)), (.int .i64 (.ofNat 0))] [(0, 1, t7), (1, 1, t8), (2, 1, t9), (3, 1, (.c (.int .i64 (.ofNat 2)))), (4, 1, (.c (.int .i64 (.ofNat 2)))), (5, 1, (.c (.int .i64 (.ofNat 40)))), (6, 1, (.c (.int .i64 (.ofNat 200)))), (7, 1, (.c (.int .i64 (.ofNat 400))))])),
 (.mk none none (.st 8 t6 t10))])
 .ret))
 [(.cell p6 (some 8))]
def ls6 : List Nat := [6]

/- delver/walk.At -/
def f7 : Fd := .mk [p0, p1, p2]
 (.seq (.reg [(.locb p3 t0),
 (.locb p4 t1),
 (.loc p6 [.nils, .nils, (.int .i64 (.ofNat 0)), .nils, .nils, (.int .i64 (.ofNat 0)), .nils, .nils, .nils, (.int .i64 (.ofNat 0)), (.int .i64 (.ofNat 0)), (.int .i64 (.ofNat 0)), (.int .i64 (.ofNat 0)), .nils, (.int .i64 (.ofNat 0)), (.int .i64 (.ofNat 0)), (.int .i64 (.ofNat 0)), (.int .i64 (.ofNat 0))]),
 (mI p7 (.mv (.c (.int .i64 (.ofNat 0)))))])
 (.seq (.reg [(mI p15 (.lda 1 t3)),
 (mI p16 (.lda 8 t4)),
 (mI p17 (.mv t2)),
 (mI p18 (.call p11 [t15, t16, t17])),
 (mI p14 (.mv t18)),
 (mI p19 (.ex t14 0)),
 (mI p20 (.ex t14 1)),
 (mI p21 (.ex t14 2)),
 (.loc p9 [.nils, .nils, (.int .i64 (.ofNat 0)), .nils, .nils, (.int .i64 (.ofNat 0)), .nils, .nils, .nils, (.int .i64 (.ofNat 0)), (.int .i64 (.ofNat 0)), (.int .i64 (.ofNat 0)), (.int .i64 (.ofNat 0)), .nils, (.int .i64 (.ofNat 0)), (.int .i64 (.ofNat 0)), (.int .i64 (.ofNat 0))]),
 (mI p8 (.mv t19)),
 (.mk none none (.st 17 t9 t20)),
 (mI p10 (.mv t21))])
 (.seq (.seq (.reg [(mI p22 (.mv t10)),
 (mI p23 (.bin .ne t22 (.c (.int .i64 (.ofNat 0)))))])
 (.cond t23 (.seq (.reg [(mI p24 (.bld [.nils, .nils, (.int .i64 (.ofNat 0)), .nils, .nils, (.int .i64 (.ofNat 0)), .nils, .nils, .nils, (.int .i64 (.ofNat 0)), (.int .i64 (.ofNat 0)), (.int .i64 (.ofNat 0)), (.int .i64 (.ofNat 0)), .nils, (.int .i64 (.ofNat 0)), (.int .i64 (.ofNat 0)), (.int .i64 (.ofNat 0)), (.int .i64 (.ofNat 0))] [])),
 (mI p25 (.mv t10)),
 (.mk none none (.st 18 t6 t24)),
 (mI p7 (.mv t25))])
 .ret) .skip))
 (.seq (.reg [(mI p27 (.mv t8)),
 (mI p28 (.lda 17 t9)),
 (mI p29 (.call p12 [t27, t28])),
 (mI p26 (.mv t29)),
 (mI p30 (.ex t26 0)),
 (mI p31 (.ex t26 1)),
 (mI p32 (.ex t26 2)),
 (mI p11 (.mv t30)),
 (mI p12 (.mv t31)),
 (mI p13 (.mv t32))])
 (.seq (.reg [(mI p33 (.fa 0 t9)),
 (mI p34 (.lda 15 t33)),
 (mI p35 (.call p13 [t34])),
 (mI p36 (.mv t11)),
 (mI p37 (.mv t12)),
 (mI p38 (.mv t13)),
 (mI p39 (.len t38)),
 (mI p40 (.bld [.nils, .nils, (.int .i64 (.ofNat 0)), .nils, .nils, (.int .i64 (.ofNat 0)), .nils, .nils, .nils, (.int .i64 (.ofNat 0)), (.int .i64 (.ofNat 0)), (.int .i64 (.ofNat 0)), (.int .i64 (.ofNat 0)), .nils, (.int .i64 (.ofNat 0)), (.int .i64 (.ofNat 0)), (.int .i64 (.ofNat 0)), (.int .i64 (.ofNat 0))] [(0, 15, t35), (15, 1, t36), (16, 1, t37), (17, 1, t39)])),
 (.mk none none (.st 18 t6 t40)),
 (mI p7 (.mv (.c (.int .i64 (.ofNat 0)))))])
 .ret)))))
 [(.cell p6 (some 18)), (.t p7)]
def ls7 : List Nat := [3, 4, 6, 9]

/- delver/delverlaw21.wakes -/
def f8 : Fd := .mk []
 (.seq (.reg [(mI p0 (.mv (.c (.bool false))))])
 (.seq (.reg [(mI p8 (.call p9 [])),
 (mI p9 (.call p6 [(.c (.str 4 1701080910)), (.c (.str 1 109)), (.c (.str 0 0))])),
 (mI p10 (.call p7 [t8, t9, (.c .nils)])),
 (mI p7 (.mv t10)),
 (mI p11 (.ex t7 0)),
 (mI p12 (.ex t7 1)),
 (.loc p1 [.nils, .nils, (.int .i64 (.ofNat 0)), .nils, .nils, (.int .i64 (.ofNat 0)), .nils, .nils, .nils, (.int .i64 (.ofNat 0)), (.int .i64 (.ofNat 0)), (.int .i64 (.ofNat 0)), (.int .i64 (.ofNat 0)), .nils, (.int .i64 (.ofNat 0)), (.int .i64 (.ofNat 0)), (.int .i64 (.ofNat 0)), (.int .i64 (.ofNat 0))]),
 (.mk none none (.st 18 t1 t11)),
 (mI p2 (.mv t12))])
 (.seq (.reg [(mI p14 (.bld [(.int .i64 (.ofNat 0)), (.int .i64 (.ofNat 0)), (.str 0 0), (.str 0 0)] [(0, 1, (.c (.int .i64 (.ofNat 1)))), (1, 1, (.c (.int .i64 (.ofNat 7))))])),
 (mI p15 (.bld [(.int .i64 (.ofNat 0)), (.int .i64 (.ofNat 0)), (.str 0 0), (.str 0 0)] [(0, 1, (.c (.int .i64 (.ofNat 41))))])),
 (mI p16 (.bsl 2 4 [(.int .i64 (.ofNat 0)), (.int .i64 (.ofNat 0)), (.str 0 0), (.str 0 0), (.int .i64 (.ofNat 0)), (.int .i64 (.ofNat 0)), (.str 0 0), (.str 0 0)] [(0, 4, t14), (4, 4, t15)])),
 (mI p17 (.call p5 [(.c (.int .i64 (.ofNat 0))), t16])),
 (mI p18 (.call p6 [(.c (.str 1 65)), (.c (.str 1 109)), (.c (.str 0 0))])),
 (mI p19 (.bsl 2 1 [(.int .i64 (.ofNat 0)), (.int .i64 (.ofNat 0))] [(0, 1, (.c (.int .i64 (.ofNat 0)))), (1, 1, (.c (.int .i64 (.ofNat 0))))])),
 (mI p20 (.call p7 [t17, t18, t19])),
 (mI p13 (.mv t20)),
 (mI p21 (.ex t13 0)),
 (mI p22 (.ex t13 1)),
 (.loc p3 [.nils, .nils, (.int .i64 (.ofNat 0)), .nils, .nils, (.int .i64 (.ofNat 0)), .nils, .nils, .nils, (.int .i64 (.ofNat 0)), (.int .i64 (.ofNat 0)), (.int .i64 (.ofNat 0)), (.int .i64 (.ofNat 0)), .nils, (.int .i64 (.ofNat 0)), (.int .i64 (.ofNat 0)), (.int .i64 (.ofNat 0)), (.int .i64 (.ofNat 0))]),
 (.mk none none (.st 18 t3 t21)),
 (mI p4 (.mv t22))])
 (.seq (.reg [(mI p24 (.call p9 [])),
 (mI p25 (.call p6 [(.c (.str 4 1701080910)), (.c (.str 1 109)), (.c (.str 0 0))])),
 (mI p26 (.bsl 1 1 [(.int .i64 (.ofNat 0))] [(0, 1, (.c (.int .i64 (.ofNat 2))))])),
 (mI p27 (.call p7 [t24, t25, t26])),
 (mI p23 (.mv t27)),
 (mI p28 (.ex t23 0)),
 (mI p29 (.ex t23 1)),
 (.loc p5 [.nils, .nils, (.int .i64 (.ofNat 0)), .nils, .nils, (.int .i64 (.ofNat 0)), .nils, .nils, .nils, (.int .i64 (.ofNat 0)), (.int .i64 (.ofNat 0)), (.int .i64 (.ofNat 0)), (.int .i64 (.ofNat 0)), .nils, (.int .i64 (.ofNat 0)), (.int .i64 (.ofNat 0)), (.int .i64 (.ofNat 0)), (.int .i64 (.ofNat 0))]),
 (.mk none none (.st 18 t5 t28)),
 (mI p6 (.mv t29))])
 (.seq (.reg [(mI p30 (.mv t2)),
 (mI p31 (.bin .eq t30 (.c (.int .i64 (.ofNat 0))))),
 (mI p32 (.mv t31)),
 (.mk (some p33) (some (p32, true)) (.mv t4)),
 (.mk (some p34) (some (p32, true)) (.bin .eq t33 (.c (.int .i64 (.ofNat 0))))),
 (mI p35 (.pick t32 t34 (.c (.bool false)))),
 (mI p36 (.mv t35)),
 (.mk (some p37) (some (p36, true)) (.mv t6)),
 (.mk (some p38) (some (p36, true)) (.bin .eq t37 (.c (.int .i64 (.ofNat 5))))),
 (mI p39 (.pick t36 t38 (.c (.bool false)))),
 (mI p40 (.mv t39)),
 (.mk (some p41) (some (p40, true)) (.fa 17 t1)),
 (.mk (some p42) (some (p40, true)) (.ld t41)),
 (.mk (some p43) (some (p40, true)) (.bin .eq t42 (.c (.int .i64 (.ofNat 2))))),
 (mI p44 (.pick t40 t43 (.c (.bool false)))),
 (mI p45 (.mv t44)),
 (.mk (some p46) (some (p45, true)) (.fa 15 t1)),
 (.mk (some p47) (some (p45, true)) (.ld t46)),
 (.mk (some p48) (some (p45, true)) (.bin .eq t47 (.c (.int .i64 (.ofNat 0))))),
 (mI p49 (.pick t45 t48 (.c (.bool false)))),
 (mI p50 (.mv t49)),
 (.mk (some p51) (some (p50, true)) (.fa 15 t3)),
 (.mk (some p52) (some (p50, true)) (.ld t51)),
 (.mk (some p53) (some (p50, true)) (.bin .eq t52 (.c (.int .i64 (.ofNat 1))))),
 (mI p54 (.pick t50 t53 (.c (.bool false)))),
 (mI p55 (.mv t54)),
 (.mk (some p56) (some (p55, true)) (.fa 0 t3)),
 (.mk (some p57) (some (p55, true)) (.fa 11 t56)),
 (.mk (some p58) (some (p55, true)) (.fa 1 t57)),
 (.mk (some p59) (some (p55, true)) (.fa 0 t58)),
 (.mk (some p60) (some (p55, true)) (.ld t59)),
 (.mk (some p61) (some (p55, true)) (.bin .eq t60 (.c (.int .i64 (.ofNat 7))))),
 (mI p62 (.pick t55 t61 (.c (.bool false)))),
 (mI p63 (.mv t62)),
 (.mk (some p64) (some (p63, true)) (.fa 0 t3)),
 (.mk (some p65) (some (p63, true)) (.fa 9 t64)),
 (.mk (some p66) (some (p63, true)) (.ld t65)),
 (.mk (some p67) (some (p63, true)) (.bin .eq t66 (.c (.int .i64 (.ofNat 2))))),
 (mI p68 (.pick t63 t67 (.c (.bool false)))),
 (mI p0 (.mv t68))])
 .ret)))))
 [(.t p0)]
def ls8 : List Nat := [1, 3, 5]

/- delver/delverlaw09.Ring -/
def f9 : Fd := .mk []
 (.seq (.reg [(.loc p0 [.nils])])
 (.seq (.reg [(mI p2 (.bld [(.int .i64 (.ofNat 0)), (.str 0 0)] [(0, 1, (.c (.int .i64 (.ofNat 3)))), (1, 1, (.c (.str 4 1701080910)))])),
 (.loc p1 [(.int .i64 (.ofNat 0)), (.str 0 0)]),
 (.mk none none (.st 2 t1 t2))])
 (.seq (.reg [(mI p3 (.lda 2 t1)),
 (mI p4 (.bld [(.str 0 0), (.int .i64 (.ofNat 0)), (.str 0 0), (.bool false)] [(0, 1, (.c (.str 4 1954047342))), (1, 2, t3)])),
 (mI p5 (.bsl 1 4 [(.str 0 0), (.int .i64 (.ofNat 0)), (.str 0 0), (.bool false)] [(0, 4, t4)])),
 (mI p6 (.lda 2 t1)),
 (mI p7 (.bsl 1 2 [(.int .i64 (.ofNat 0)), (.str 0 0)] [(0, 2, t6)])),
 (mI p8 (.bld [(.int .i64 (.ofNat 0)), (.str 0 0)] [(0, 1, (.c (.int .i64 (.ofNat 2))))])),
 (mI p9 (.bld [(.int .i64 (.ofNat 0)), (.int .i64 (.ofNat 0)), (.str 0 0), (.str 0 0)] [(0, 1, (.c (.int .i64 (.ofNat 1)))), (1, 1, (.c (.int .i64 (.ofNat 1))))])),
 (mI p10 (.bld [(.int .i64 (.ofNat 0)), (.int .i64 (.ofNat 0)), (.str 0 0), (.str 0 0)] [(0, 1, (.c (.int .i64 (.ofNat 41))))])),
 (mI p11 (.bsl 2 4 [(.int .i64 (.ofNat 0)), (.int .i64 (.ofNat 0)), (.str 0 0), (.str 0 0), (.int .i64 (.ofNat 0)), (.int .i64 (.ofNat 0)), (.str 0 0), (.str 0 0)] [(0, 4, t9), (4, 4, t10)])),
 (mI p12 (.bld [(.str 0 0), (.bool false), (.bool false), .nils, (.int .i64 (.ofNat 0)), (.str 0 0), (.int .i64 (.ofNat 0)), .nils, .nils] [(0, 1, (.c (.str 1 109))), (1, 1, (.c (.bool true))), (3, 1, t7), (4, 2, t8), (6, 1, (.c (.int .i64 (.ofNat 1)))), (7, 1, t11)])),
 (mI p13 (.bsl 1 9 [(.str 0 0), (.bool false), (.bool false), .nils, (.int .i64 (.ofNat 0)), (.str 0 0), (.int .i64 (.ofNat 0)), .nils, .nils] [(0, 9, t12)])),
 (mI p14 (.bld [(.str 0 0), (.bool false), (.str 0 0), .nils, .nils, .nils] [(0, 1, (.c (.str 4 1701080910))), (4, 1, t5), (5, 1, t13)])),
 (mI p15 (.bsl 1 6 [(.str 0 0), (.bool false), (.str 0 0), .nils, .nils, .nils] [(0, 6, t14)])),
 (mI p16 (.bld [.nils] [(0, 1, t15)])),
 (.mk none none (.st 1 t0 t16))])
 .ret)))
 [(.cell p0 (some 1))]
def ls9 : List Nat := [0, 1]

/- delver/walk.Reach -/
def f11 : Fd := .mk [p0, p1, p2]
 (.seq (.reg [(.locb p3 t0),
 (.locb p4 t1),
 (mI p6 (.mv (.c .nilp))),
 (.loc p7 [.nils, .nils, (.int .i64 (.ofNat 0)), .nils, .nils, (.int .i64 (.ofNat 0)), .nils, .nils, .nils, (.int .i64 (.ofNat 0)), (.int .i64 (.ofNat 0)), (.int .i64 (.ofNat 0)), (.int .i64 (.ofNat 0)), .nils, (.int .i64 (.ofNat 0)), (.int .i64 (.ofNat 0)), (.int .i64 (.ofNat 0))]),
 (mI p8 (.mv (.c (.int .i64 (.ofNat 0)))))])
 (.seq (.reg [(mI p13 (.lda 1 t3)),
 (mI p14 (.lda 8 t4)),
 (mI p15 (.call p18 [t13, t14])),
 (mI p12 (.mv t15)),
 (mI p16 (.ex t12 0)),
 (mI p17 (.ex t12 1)),
 (mI p9 (.mv t16)),
 (mI p10 (.mv t17))])
 (.seq (.seq (.reg [(mI p18 (.mv t10)),
 (mI p19 (.bin .ne t18 (.c (.int .i64 (.ofNat 0)))))])
 (.cond t19 .bad .skip))
 (.seq (.reg [(mI p23 (.mv t9)),
 (mI p24 (.mv t2)),
 (mI p25 (.call p19 [t23, t24])),
 (mI p22 (.mv t25)),
 (mI p26 (.ex t22 0)),
 (mI p27 (.ex t22 1)),
 (.loc p11 [.nils, .nils, (.int .i64 (.ofNat 0)), .nils, .nils, (.int .i64 (.ofNat 0)), .nils, .nils, .nils, (.int .i64 (.ofNat 0)), (.int .i64 (.ofNat 0)), (.int .i64 (.ofNat 0)), (.int .i64 (.ofNat 0)), .nils, (.int .i64 (.ofNat 0)), (.int .i64 (.ofNat 0)), (.int .i64 (.ofNat 0))]),
 (.mk none none (.st 17 t11 t26)),
 (mI p10 (.mv t27))])
 (.seq (.drw [(.mk true [p9] [p28] true (mI p28 (.mv t9))),
 (.mk true [p11] [p29] true (mI p29 (.vla 17 t11))),
 (.mk true [p10] [p30] true (mI p30 (.mv t10))),
 (.mk true [p28] [p6] true (mI p6 (.mv t28))),
 (.mk true [p7, p29] [p7] true (.mk none none (.st 17 t7 t29))),
 (.mk true [p30] [p8] true (mI p8 (.mv t30)))])
 .ret)))))
 [(.t p6), (.cell p7 (some 17)), (.t p8)]
def ls11 : List Nat := [3, 4, 7, 11]

/- (*delver/walk.Walker).Open -/
def f12 : Fd := .mk [p0, p1]
 (.seq (.reg [(.locb p3 t1),
 (mI p4 (.mv (.c (.int .i64 (.ofNat 0))))),
 (mI p5 (.mv (.c (.int .i64 (.ofNat 0))))),
 (mI p6 (.mv (.c .nils)))])
 (.seq (.seq (.reg [(mI p12 (.fa 15 t3)),
 (mI p13 (.ld t12)),
 (mI p14 (.bin .ne t13 (.c (.int .i64 (.ofNat 0)))))])
 (.cond t14 .bad .skip))
 (.seq (.reg [(mI p19 (.mv t0)),
 (mI p20 (.fa 0 t3)),
 (mI p21 (.lda 15 t20)),
 (mI p22 (.call p20 [t19, t21])),
 (.loc p7 [(.int .i64 (.ofNat 0)), (.int .i64 (.ofNat 0)), .nils]),
 (.mk none none (.st 3 t7 t22))])
 (.seq (.seq (.reg [(mI p23 (.fa 0 t7)),
 (mI p24 (.ld t23)),
 (mI p25 (.bin .ne t24 (.c (.int .i64 (.ofNat 0)))))])
 (.cond t25 (.seq (.drw [(.mk true [p7] [p26] true (mI p26 (.fa 0 t7))),
 (.mk true [p7, p26] [p27] true (mI p27 (.vla 0 t26))),
 (.mk true [p7] [p28] true (mI p28 (.fa 1 t7))),
 (.mk true [p7, p28] [p29] true (mI p29 (.vla 0 t28))),
 (.mk true [p27] [p4] true (mI p4 (.mv t27))),
 (.mk true [p29] [p5] true (mI p5 (.mv t29))),
 (.mk true [] [p6] true (mI p6 (.mv (.c .nils))))])
 .ret) .skip))
 (.seq (.seq (.reg [(mI p30 (.fa 2 t7)),
 (mI p31 (.ld t30)),
 (mI p32 (.len t31)),
 (mI p33 (.mv (.c (.int .i64 (.ofNat 0)))))])
 (.block 0 (.loop [p0, p6, p31, p32, p33] (.seq (.reg [(mI p34 (.bin .lt t33 t32))])
 (.seq (.cond t34 .skip (.exit 0))
 (.seq (.block 1 (.seq (.reg [(mI p35 (.ia 16 t31 t33)),
 (mI p36 (.lda 16 t35)),
 (.loc p9 [.nils, .nils, .nils, (.int .i64 (.ofNat 0)), .nils, .nils, (.int .i64 (.ofNat 0)), .nils, .nils, .nils, (.int .i64 (.ofNat 0)), (.int .i64 (.ofNat 0)), (.int .i64 (.ofNat 0)), (.int .i64 (.ofNat 0)), .nils, (.int .i64 (.ofNat 0))]),
 (.mk none none (.st 16 t9 t36))])
 (.seq (.reg [(mI p37 (.fa 1 t9)),
 (mI p38 (.lda 15 t37)),
 (mI p39 (.bld [.nils, .nils, (.int .i64 (.ofNat 0)), .nils, .nils, (.int .i64 (.ofNat 0)), .nils, .nils, .nils, (.int .i64 (.ofNat 0)), (.int .i64 (.ofNat 0)), (.int .i64 (.ofNat 0)), (.int .i64 (.ofNat 0)), .nils, (.int .i64 (.ofNat 0)), (.int .i64 (.ofNat 0)), (.int .i64 (.ofNat 0))] [(0, 15, t38)])),
 (.loc p10 [.nils, .nils, (.int .i64 (.ofNat 0)), .nils, .nils, (.int .i64 (.ofNat 0)), .nils, .nils, .nils, (.int .i64 (.ofNat 0)), (.int .i64 (.ofNat 0)), (.int .i64 (.ofNat 0)), (.int .i64 (.ofNat 0)), .nils, (.int .i64 (.ofNat 0)), (.int .i64 (.ofNat 0)), (.int .i64 (.ofNat 0))]),
 (.mk none none (.st 17 t10 t39))])
 (.seq (.seq (.reg [(mI p40 (.fa 0 t9)),
 (mI p41 (.ld t40)),
 (mI p42 (.len t41)),
 (mI p43 (.bin .gt t42 (.c (.int .i64 (.ofNat 0)))))])
 (.cond t43 .bad .skip))
 (.reg [(mI p64 (.mv t6)),
 (mI p65 (.lda 17 t10)),
 (mI p66 (.bsl 1 17 [.nils, .nils, (.int .i64 (.ofNat 0)), .nils, .nils, (.int .i64 (.ofNat 0)), .nils, .nils, .nils, (.int .i64 (.ofNat 0)), (.int .i64 (.ofNat 0)), (.int .i64 (.ofNat 0)), (.int .i64 (.ofNat 0)), .nils, (.int .i64 (.ofNat 0)), (.int .i64 (.ofNat 0)), (.int .i64 (.ofNat 0))] [(0, 17, t65)])),
 (mI p67 (.app 17 264 t64 t66)),
 (mI p6 (.mv t67))])))))
 (.reg [(mI p68 (.bin .add t33 (.c (.int .i64 (.ofNat 1))))),
 (mI p33 (.mv t68))])))))))
 (.seq (.reg [(mI p69 (.mv t6)),
 (mI p4 (.mv (.c (.int .i64 (.ofNat 0))))),
 (mI p5 (.mv (.c (.int .i64 (.ofNat 0))))),
 (mI p6 (.mv t69))])
 .ret))))))
 [(.t p4), (.t p5), (.t p6)]
def ls12 : List Nat := [3, 7, 9, 10]

/- delver/walk.Twin -/
def f13 : Fd := .mk [p0]
 (.seq (.reg [(.locb p1 t0),
 (.loc p2 [.nils, .nils, (.int .i64 (.ofNat 0)), .nils, .nils, (.int .i64 (.ofNat 0)), .nils, .nils, .nils, (.int .i64 (.ofNat 0)), (.int .i64 (.ofNat 0)), (.int .i64 (.ofNat 0)), (.int .i64 (.ofNat 0)), .nils, (.int .i64 (.ofNat 0))])])
 (.seq (.reg [(mI p6 (.fa 0 t1)),
 (mI p7 (.lda 2 t6)),
 (mI p8 (.call p23 [t7])),
 (mI p9 (.fa 0 t1)),
 (.mk none none (.st 2 t9 t8))])
 (.seq (.drw [(.mk true [p1] [p10] true (mI p10 (.fa 3 t1))),
 (.mk true [p1, p10] [p11] true (mI p11 (.vla 0 t10))),
 (.mk true [p11] [p12] false (mI p12 (.call p24 [t11]))),
 (.mk true [p1] [p13] true (mI p13 (.fa 4 t1))),
 (.mk true [p1, p13] [p14] true (mI p14 (.vla 0 t13))),
 (.mk true [p14] [p15] false (mI p15 (.call p21 [t14]))),
 (.mk true [p1] [p16] true (mI p16 (.fa 3 t1))),
 (.mk true [p1, p16, p12] [p1] true (.mk none none (.st 1 t16 t12))),
 (.mk true [p1] [p17] true (mI p17 (.fa 4 t1))),
 (.mk true [p1, p17, p15] [p1] true (.mk none none (.st 1 t17 t15)))])
 (.seq (.seq (.reg [(mI p18 (.fa 3 t1)),
 (mI p19 (.ld t18)),
 (mI p20 (.len t19)),
 (mI p21 (.mv (.c (.int .i64 (.ofNat 0)))))])
 (.block 0 (.loop [p1, p2, p20, p21] (.seq (.reg [(mI p22 (.bin .lt t21 t20))])
 (.seq (.cond t22 .bad (.exit 0))
 .bad)))))
 (.seq (.seq (.reg [(mI p37 (.fa 4 t1)),
 (mI p38 (.ld t37)),
 (mI p39 (.len t38)),
 (mI p40 (.mv (.c (.int .i64 (.ofNat 0)))))])
 (.block 2 (.loop [p1, p2, p39, p40] (.seq (.reg [(mI p41 (.bin .lt t40 t39))])
 (.seq (.cond t41 .bad (.exit 2))
 .bad)))))
 (.seq (.drw [(.mk true [p1] [p56] true (mI p56 (.fa 6 t1))),
 (.mk true [p1, p56] [p57] true (mI p57 (.vla 0 t56))),
 (.mk true [p57] [p58] false (mI p58 (.call p26 [t57]))),
 (.mk true [p1] [p59] true (mI p59 (.fa 7 t1))),
 (.mk true [p1, p59] [p60] true (mI p60 (.vla 0 t59))),
 (.mk true [p60] [p61] false (mI p61 (.call p27 [t60]))),
 (.mk true [p1] [p62] true (mI p62 (.fa 8 t1))),
 (.mk true [p1, p62] [p63] true (mI p63 (.vla 0 t62))),
 (.mk true [p63] [p64] false (mI p64 (.call p28 [t63]))),
 (.mk true [p1] [p65] true (mI p65 (.fa 6 t1))),
 (.mk true [p1, p65, p58] [p1] true (.mk none none (.st 1 t65 t58))),
 (.mk true [p1] [p66] true (mI p66 (.fa 7 t1))),
 (.mk true [p1, p66, p61] [p1] true (.mk none none (.st 1 t66 t61))),
 (.mk true [p1] [p67] true (mI p67 (.fa 8 t1))),
 (.mk true [p1, p67, p64] [p1] true (.mk none none (.st 1 t67 t64)))])
 (.seq (.seq (.reg [(mI p68 (.fa 8 t1)),
 (mI p69 (.ld t68)),
 (mI p70 (.len t69)),
 (mI p71 (.mv (.c (.int .i64 (.ofNat 0)))))])
 (.block 4 (.loop [p1, p2, p70, p71] (.seq (.reg [(mI p72 (.bin .lt t71 t70))])
 (.seq (.cond t72 .skip (.exit 4))
 (.seq (.block 5 (.seq (.reg [(mI p73 (.mv t71)),
 (mI p5 (.mv t73))])
 (.drw [(.mk true [p1] [p74] true (mI p74 (.fa 8 t1))),
 (.mk true [p1, p74] [p75] true (mI p75 (.vla 0 t74))),
 (.mk true [p5] [p76] true (mI p76 (.mv t5))),
 (.mk true [p1] [p77] true (mI p77 (.fa 8 t1))),
 (.mk true [p1, p77] [p78] true (mI p78 (.vla 0 t77))),
 (.mk true [p5] [p79] true (mI p79 (.mv t5))),
 (.mk true [p1] [p80] true (mI p80 (.fa 8 t1))),
 (.mk true [p1, p80] [p81] true (mI p81 (.vla 0 t80))),
 (.mk true [p5] [p82] true (mI p82 (.mv t5))),
 (.mk true [p81, p82] [p83] true (mI p83 (.ia 5 t81 t82))),
 (.mk true [p83] [p84] true (mI p84 (.fa 3 t83))),
 (.mk true [p84] [p85] true (mI p85 (.ld t84))),
 (.mk true [p85] [p86] true (mI p86 (.call p27 [t85]))),
 (.mk true [p1] [p87] true (mI p87 (.fa 8 t1))),
 (.mk true [p1, p87] [p88] true (mI p88 (.vla 0 t87))),
 (.mk true [p5] [p89] true (mI p89 (.mv t5))),
 (.mk true [p88, p89] [p90] true (mI p90 (.ia 5 t88 t89))),
 (.mk true [p90] [p91] true (mI p91 (.fa 4 t90))),
 (.mk true [p91] [p92] true (mI p92 (.ld t91))),
 (.mk true [p92] [p93] false (mI p93 (.call p27 [t92]))),
 (.mk true [p75, p76] [p94] true (mI p94 (.ia 5 t75 t76))),
 (.mk true [p94] [p95] true (mI p95 (.fa 3 t94))),
 (.mk true [p95, p86] [] false (.mk none none (.st 1 t95 t86))),
 (.mk true [p78, p79] [p96] true (mI p96 (.ia 5 t78 t79))),
 (.mk true [p96] [p97] true (mI p97 (.fa 4 t96))),
 (.mk true [p97, p93] [] false (.mk none none (.st 1 t97 t93)))])))
 (.reg [(mI p98 (.bin .add t71 (.c (.int .i64 (.ofNat 1))))),
 (mI p71 (.mv t98))])))))))
 (.seq (.reg [(mI p99 (.fa 11 t1)),
 (mI p100 (.fa 1 t99)),
 (mI p101 (.lda 2 t100)),
 (mI p102 (.call p25 [t101])),
 (mI p103 (.fa 11 t1)),
 (mI p104 (.fa 1 t103)),
 (.mk none none (.st 2 t104 t102))])
 (.seq (.reg [(mI p105 (.lda 15 t1)),
 (.mk none none (.st 15 t2 t105))])
 .ret)))))))))
 [(.cell p2 (some 15))]
def ls13 : List Nat := [1, 2]

/- delver/layout.Of -/
def f14 : Fd := .mk [p0]
 (.seq (.reg [(.locb p1 t0),
 (mI p2 (.mv (.c .nilp)))])
 (.seq (.reg [(mI p3 (.lda 1 t1)),
 (mI p4 (.bld [(.int .u32 (.ofNat 0)), (.int .i32 (.ofNat 0)), (.int .u32 (.ofNat 0)), .nils, .nilp, (.int .i64 (.ofNat 0)), .nilm, .nilm, .nils, .nilm, .nilm] [(3, 1, t3)])),
 (mI p5 (.bx t4)),
 (mI p2 (.mv t5))])
 .ret))
 [(.t p2)]
def ls14 : List Nat := [1]

/- (*delver/layout.Table).E -/
def f15 : Fd := .mk [p0]
 (.seq (.reg [(mI p2 (.mv (.c (.int .i64 (.ofNat 0)))))])
 (.seq (.reg [(mI p3 (.mv t0)),
 (mI p4 (.call p29 [t3])),
 (mI p5 (.nc t4)),
 (mI p6 (.fa 5 t5)),
 (mI p7 (.ld t6)),
 (mI p2 (.mv t7))])
 .ret))
 [(.t p2)]
def ls15 : List Nat := []

/- delver/lazy.WaysIn -/
def f17 : Fd := .mk [p0, p1, p2, p3, p4]
 (.seq (.reg [(.locb p6 t1),
 (mI p10 (.mv (.c .nils)))])
 (.seq (.reg [(mI p17 (.bld [(.int .i64 (.ofNat 0)), (.int .i64 (.ofNat 0)), (.int .i64 (.ofNat 0)), (.str 0 0)] [(0, 1, (.c (.int .i64 (.ofNat 1))))])),
 (mI p18 (.bsl 1 4 [(.int .i64 (.ofNat 0)), (.int .i64 (.ofNat 0)), (.int .i64 (.ofNat 0)), (.str 0 0)] [(0, 4, t17)])),
 (mI p11 (.mv t18))])
 (.seq (.seq (.reg [(mI p19 (.mv t2)),
 (mI p20 (.len t19)),
 (mI p21 (.mv (.c (.int .i64 (.ofNat 0)))))])
 (.block 0 (.loop [p0, p2, p3, p4, p6, p11, p19, p20, p21] (.seq (.reg [(mI p22 (.bin .lt t21 t20))])
 (.seq (.cond t22 .bad (.exit 0))
 .bad)))))
 (.seq (.seq (.reg [(mI p36 (.mv t2)),
 (mI p37 (.len t36)),
 (mI p38 (.mv t3)),
 (mI p39 (.bin .ge t37 t38))])
 (.cond t39 .bad .skip))
 (.seq (.seq (.reg [(mI p41 (.fa 0 t6)),
 (mI p42 (.ld t41)),
 (mI p43 (.bin .eq t42 (.c (.int .i64 (.ofNat 3)))))])
 (.cond t43 (.seq (.seq (.drw [(.mk true [p0] [p44] true (mI p44 (.mv t0))),
 (.mk true [p44] [p45] false (mI p45 (.call p32 [t44]))),
 (.mk true [p6] [p46] true (mI p46 (.fa 1 t6))),
 (.mk true [p6, p46] [p47] true (mI p47 (.vla 0 t46))),
 (.mk true [p45, p47] [p48] false (mI p48 (.call p33 [t45, t47]))),
 (.mk true [p48] [p49] true (mI p49 (.len t48))),
 (.mk true [] [p50] true (mI p50 (.mv (.c (.int .i64 (.ofNat 0))))))])
 (.block 2 (.loop [p11, p48, p49, p50] (.seq (.reg [(mI p51 (.bin .lt t50 t49))])
 (.seq (.cond t51 .skip (.exit 2))
 (.seq (.block 3 (.seq (.reg [(mI p52 (.ia 1 t48 t50)),
 (mI p53 (.ld t52)),
 (mI p15 (.mv t53))])
 (.reg [(mI p54 (.mv t11)),
 (mI p55 (.mv t15)),
 (mI p56 (.bld [(.int .i64 (.ofNat 0)), (.str 0 0)] [(0, 1, (.c (.int .i64 (.ofNat 3)))), (1, 1, t55)])),
 (mI p57 (.bld [(.int .i64 (.ofNat 0)), (.int .i64 (.ofNat 0)), (.int .i64 (.ofNat 0)), (.str 0 0)] [(0, 1, (.c (.int .i64 (.ofNat 3)))), (2, 2, t56)])),
 (mI p58 (.bsl 1 4 [(.int .i64 (.ofNat 0)), (.int .i64 (.ofNat 0)), (.int .i64 (.ofNat 0)), (.str 0 0)] [(0, 4, t57)])),
 (mI p59 (.app 4 40 t54 t58)),
 (mI p11 (.mv t59))])))
 (.reg [(mI p60 (.bin .add t50 (.c (.int .i64 (.ofNat 1))))),
 (mI p50 (.mv t60))])))))))
 (.seq (.reg [(mI p61 (.mv t11)),
 (mI p10 (.mv t61))])
 .ret)) .bad))
 .bad)))))
 [(.t p10)]
def ls17 : List Nat := [6, 13]

/- delver/walk.New -/
def f18 : Fd := .mk [p0, p1]
 (.seq (.reg [(.locb p2 t0),
 (.locb p3 t1),
 (mI p4 (.mv (.c .nilp))),
 (mI p5 (.mv (.c (.int .i64 (.ofNat 0)))))])
 (.seq (.reg [(mI p10 (.lda 1 t2)),
 (mI p11 (.call p14 [t10])),
 (mI p6 (.mv t11))])
 (.seq (.reg [(mI p13 (.mv t6)),
 (mI p14 (.lda 1 t2)),
 (mI p15 (.lda 8 t3)),
 (mI p16 (.call p34 [t13, t14, t15])),
 (mI p12 (.mv t16)),
 (mI p17 (.ex t12 0)),
 (mI p18 (.ex t12 1)),
 (mI p19 (.ex t12 2)),
 (.loc p7 [(.str 0 0), (.bool false), (.bool false), .nils, (.int .i64 (.ofNat 0)), (.str 0 0), (.int .i64 (.ofNat 0)), .nils, .nils]),
 (.loc p8 [(.str 0 0), (.bool false), (.bool false), .nils, (.int .i64 (.ofNat 0)), (.str 0 0), (.int .i64 (.ofNat 0)), .nils, .nils]),
 (.mk none none (.st 9 t7 t17)),
 (.mk none none (.st 9 t8 t18)),
 (mI p9 (.mv t19))])
 (.seq (.seq (.reg [(mI p20 (.mv t9)),
 (mI p21 (.bin .ne t20 (.c (.int .i64 (.ofNat 0)))))])
 (.cond t21 .bad .skip))
 (.seq (.reg [(mI p23 (.mv t6)),
 (mI p24 (.lda 8 t3)),
 (mI p25 (.lda 9 t7)),
 (mI p26 (.lda 9 t8)),
 (mI p27 (.bld [.nilp, (.str 0 0), (.str 0 0), (.str 0 0), (.int .i64 (.ofNat 0)), (.int .i64 (.ofNat 0)), (.int .i64 (.ofNat 0)), (.int .i64 (.ofNat 0)), (.int .i64 (.ofNat 0)), (.str 0 0), (.bool false), (.bool false), .nils, (.int .i64 (.ofNat 0)), (.str 0 0), (.int .i64 (.ofNat 0)), .nils, .nils, (.str 0 0), (.bool false), (.bool false), .nils, (.int .i64 (.ofNat 0)), (.str 0 0), (.int .i64 (.ofNat 0)), .nils, .nils] [(0, 1, t23), (1, 8, t24), (9, 9, t25), (18, 9, t26)])),
 (mI p28 (.bx t27)),
 (mI p4 (.mv t28)),
 (mI p5 (.mv (.c (.int .i64 (.ofNat 0)))))])
 .ret)))))
 [(.t p4), (.t p5)]
def ls18 : List Nat := [2, 3, 7, 8]

/- (*delver/walk.Walker).Go -/
def f19 : Fd := .mk [p0, p1]
 (.seq (.reg [(.loc p4 [.nils, .nils, (.int .i64 (.ofNat 0)), .nils, .nils, (.int .i64 (.ofNat 0)), .nils, .nils, .nils, (.int .i64 (.ofNat 0)), (.int .i64 (.ofNat 0)), (.int .i64 (.ofNat 0)), (.int .i64 (.ofNat 0)), .nils, (.int .i64 (.ofNat 0)), (.int .i64 (.ofNat 0)), (.int .i64 (.ofNat 0))]),
 (mI p5 (.mv (.c (.int .i64 (.ofNat 0)))))])
 (.seq (.seq (.reg [(mI p12 (.mv t1)),
 (mI p13 (.len t12)),
 (mI p14 (.bin .gt t13 (.c (.int .i64 (.ofNat 600)))))])
 (.cond t14 .bad .skip))
 (.seq (.reg [(mI p16 (.mv t0)),
 (mI p17 (.call p35 [t16])),
 (.loc p6 [.nils, .nils, (.int .i64 (.ofNat 0)), .nils, .nils, (.int .i64 (.ofNat 0)), .nils, .nils, .nils, (.int .i64 (.ofNat 0)), (.int .i64 (.ofNat 0)), (.int .i64 (.ofNat 0)), (.int .i64 (.ofNat 0)), .nils, (.int .i64 (.ofNat 0)), (.int .i64 (.ofNat 0)), (.int .i64 (.ofNat 0))]),
 (.mk none none (.st 17 t6 t17))])
 (.seq (.seq (.reg [(mI p18 (.mv t1)),
 (mI p19 (.len t18)),
 (mI p20 (.mv (.c (.int .i64 (.ofNat 0)))))])
 (.block 0 (.loop [p0, p4, p6, p18, p19, p20] (.seq (.reg [(mI p21 (.bin .lt t20 t19))])
 (.seq (.cond t21 .skip (.exit 0))
 (.seq (.block 1 (.seq (.reg [(mI p22 (.ia 1 t18 t20)),
 (mI p23 (.ld t22)),
 (mI p8 (.mv t23))])
 (.seq (.reg [(mI p25 (.mv t0)),
 (mI p26 (.lda 17 t6)),
 (mI p27 (.call p12 [t25, t26])),
 (mI p24 (.mv t27)),
 (mI p28 (.ex t24 0)),
 (mI p29 (.ex t24 1)),
 (mI p30 (.ex t24 2)),
 (mI p9 (.mv t28)),
 (mI p10 (.mv t29)),
 (mI p11 (.mv t30))])
 (.seq (.seq (.reg [(mI p31 (.mv t8)),
 (mI p32 (.bin .lt t31 (.c (.int .i64 (.ofNat 0))))),
 (mI p33 (.mv t32)),
 (.mk (some p34) (some (p33, false)) (.mv t8)),
 (.mk (some p35) (some (p33, false)) (.mv t11)),
 (.mk (some p36) (some (p33, false)) (.len t35)),
 (.mk (some p37) (some (p33, false)) (.bin .ge t34 t36)),
 (mI p38 (.pick t33 (.c (.bool true)) t37))])
 (.cond t38 (.seq (.reg [(mI p39 (.bld [.nils, .nils, (.int .i64 (.ofNat 0)), .nils, .nils, (.int .i64 (.ofNat 0)), .nils, .nils, .nils, (.int .i64 (.ofNat 0)), (.int .i64 (.ofNat 0)), (.int .i64 (.ofNat 0)), (.int .i64 (.ofNat 0)), .nils, (.int .i64 (.ofNat 0)), (.int .i64 (.ofNat 0)), (.int .i64 (.ofNat 0))] [])),
 (.mk none none (.st 17 t4 t39)),
 (mI p5 (.mv (.c (.int .i64 (.ofNat 5)))))])
 .ret) .skip))
 (.reg [(mI p40 (.mv t11)),
 (mI p41 (.mv t8)),
 (mI p42 (.ia 17 t40 t41)),
 (mI p43 (.lda 17 t42)),
 (.mk none none (.st 17 t6 t43))])))))
 (.reg [(mI p44 (.bin .add t20 (.c (.int .i64 (.ofNat 1))))),
 (mI p20 (.mv t44))])))))))
 (.seq (.reg [(mI p45 (.lda 17 t6)),
 (.mk none none (.st 17 t4 t45)),
 (mI p5 (.mv (.c (.int .i64 (.ofNat 0)))))])
 .ret)))))
 [(.cell p4 (some 17)), (.t p5)]
def ls19 : List Nat := [4, 6]

/- (*delver/walk.Walker).is -/
def f20 : Fd := .mk [p0, p1]
 (.seq (.reg [(.locb p3 t1),
 (.loc p4 [(.int .i64 (.ofNat 0)), (.int .i64 (.ofNat 0)), .nils])])
 (.seq (.reg [(mI p6 (.fa 0 t3)),
 (mI p7 (.lda 2 t6)),
 (mI p8 (.call p36 [t7])),
 (mI p5 (.mv t8))])
 (.seq (.block 0 (.seq (.reg [(mI p10 (.mv t5)),
 (mI p11 (.bin .ge t10 (.c (.int .i64 (.ofNat 0))))),
 (mI p9 (.mv t11))])
 (.cond t9 (.seq (.reg [(mI p12 (.mv t0)),
 (mI p13 (.lda 15 t3)),
 (mI p14 (.mv t5)),
 (mI p15 (.call p37 [t12, t13, t14])),
 (.mk none none (.st 3 t4 t15))])
 .ret) (.seq (.reg [(mI p17 (.fa 5 t3)),
 (mI p18 (.ld t17)),
 (mI p19 (.bin .eq t18 (.c (.int .i64 (.ofNat 0))))),
 (mI p20 (.mv t19)),
 (.mk (some p21) (some (p20, true)) (.fa 10 t3)),
 (.mk (some p22) (some (p20, true)) (.ld t21)),
 (.mk (some p23) (some (p20, true)) (.bin .eq t22 (.c (.int .i64 (.ofNat 1))))),
 (mI p24 (.pick t20 t23 (.c (.bool false)))),
 (mI p16 (.mv t24))])
 (.cond t16 .bad (.seq (.reg [(mI p29 (.fa 5 t3)),
 (mI p30 (.ld t29)),
 (mI p31 (.bin .eq t30 (.c (.int .i64 (.ofNat 0))))),
 (mI p32 (.mv t31)),
 (.mk (some p33) (some (p32, true)) (.fa 10 t3)),
 (.mk (some p34) (some (p32, true)) (.ld t33)),
 (.mk (some p35) (some (p32, true)) (.bin .eq t34 (.c (.int .i64 (.ofNat 2))))),
 (mI p36 (.pick t32 t35 (.c (.bool false)))),
 (mI p28 (.mv t36))])
 (.cond t28 .bad (.seq (.reg [(mI p39 (.fa 10 t3)),
 (mI p40 (.ld t39)),
 (mI p41 (.bin .eq t40 (.c (.int .i64 (.ofNat 1))))),
 (mI p38 (.mv t41))])
 (.cond t38 (.seq (.reg [(mI p42 (.call p39 [(.c (.int .i64 (.ofNat 1)))])),
 (.mk none none (.st 3 t4 t42))])
 .ret) (.seq (.reg [(mI p44 (.fa 10 t3)),
 (mI p45 (.ld t44)),
 (mI p46 (.bin .eq t45 (.c (.int .i64 (.ofNat 2))))),
 (mI p43 (.mv t46))])
 (.cond t43 .bad (.seq (.drw [(.mk true [p3] [p49] true (mI p49 (.fa 9 t3))),
 (.mk true [p3, p49] [p50] true (mI p50 (.vla 0 t49))),
 (.mk true [p0] [p51] true (mI p51 (.mv t0))),
 (.mk true [p51] [p52] true (mI p52 (.nc t51))),
 (.mk true [p52] [p53] true (mI p53 (.fa 1 t52))),
 (.mk true [p53] [p54] true (mI p54 (.fa 5 t53))),
 (.mk true [p54] [p55] true (mI p55 (.ld t54))),
 (.mk true [p50, p55] [p56] true (mI p56 (.bin .ge t50 t55))),
 (.mk true [p56] [p48] true (mI p48 (.mv t56)))])
 (.cond t48 .bad .skip)))))))))))))
 (.seq (.reg [(mI p58 (.mv t0)),
 (mI p59 (.lda 15 t3)),
 (mI p60 (.call p40 [t58, t59])),
 (.mk none none (.st 3 t4 t60))])
 .ret))))
 [(.cell p4 (some 3))]
def ls20 : List Nat := [3, 4]

/- slices.Clone[[]delver/api.Cons,delver/api.Cons] -/
def f21 : Fd := .mk [p0]
 (.seq (.reg [(mI p2 (.mv (.c .nils)))])
 (.seq (.seq (.reg [(mI p3 (.mv t0)),
 (mI p4 (.isnil false t3))])
 (.cond t4 (.seq (.reg [(mI p2 (.mv (.c .nils)))])
 .ret) .bad))
 .bad))
 [(.t p2)]
def ls21 : List Nat := []

/- delver/open.Twin -/
def f23 : Fd := .mk [p0]
 (.seq (.reg [(.locb p1 t0),
 (.loc p2 [.nils, .nils])])
 (.seq (.drw [(.mk true [p1] [p3] true (mI p3 (.fa 0 t1))),
 (.mk true [p1, p3] [p4] true (mI p4 (.vla 0 t3))),
 (.mk true [p4] [p5] false (mI p5 (.call p27 [t4]))),
 (.mk true [p1] [p6] true (mI p6 (.fa 1 t1))),
 (.mk true [p1, p6] [p7] true (mI p7 (.vla 0 t6))),
 (.mk true [p7] [p8] false (mI p8 (.call p26 [t7]))),
 (.mk true [p5, p8] [p9] true (mI p9 (.bld [.nils, .nils] [(0, 1, t5), (1, 1, t8)]))),
 (.mk true [p2, p9] [p2] true (.mk none none (.st 2 t2 t9)))])
 .ret))
 [(.cell p2 (some 2))]
def ls23 : List Nat := [1, 2]

/- slices.Clone[[]delver/api.Quot,delver/api.Quot] -/
def f24 : Fd := .mk [p0]
 (.seq (.reg [(mI p2 (.mv (.c .nils)))])
 (.seq (.seq (.reg [(mI p3 (.mv t0)),
 (mI p4 (.isnil false t3))])
 (.cond t4 (.seq (.reg [(mI p2 (.mv (.c .nils)))])
 .ret) .bad))
 .bad))
 [(.t p2)]
def ls24 : List Nat := []

/- delver/term.Twin -/
def f25 : Fd := .mk [p0]
 (.seq (.reg [(.locb p1 t0),
 (.loc p2 [(.int .i64 (.ofNat 0)), .nils])])
 (.seq (.drw [(.mk true [p1] [p3] true (mI p3 (.fa 0 t1))),
 (.mk true [p1, p3] [p4] true (mI p4 (.vla 0 t3))),
 (.mk true [p1] [p5] true (mI p5 (.fa 1 t1))),
 (.mk true [p1, p5] [p6] true (mI p6 (.vla 0 t5))),
 (.mk true [p6] [p7] false (mI p7 (.call p42 [t6]))),
 (.mk true [p4, p7] [p8] true (mI p8 (.bld [(.int .i64 (.ofNat 0)), .nils] [(0, 1, t4), (1, 1, t7)]))),
 (.mk true [p2, p8] [p2] true (.mk none none (.st 2 t2 t8)))])
 .ret))
 [(.cell p2 (some 2))]
def ls25 : List Nat := [1, 2]

/- delver/open.Heap -/
def f26 : Fd := .mk [p0]
 (.seq (.reg [(mI p2 (.mv (.c .nils)))])
 (.seq (.reg [(mI p3 (.mv (.c .nils)))])
 (.seq (.seq (.reg [(mI p6 (.mv t0)),
 (mI p7 (.len t6)),
 (mI p8 (.mv (.c (.int .i64 (.ofNat 0)))))])
 (.block 0 (.loop [p3, p6, p7, p8] (.seq (.reg [(mI p9 (.bin .lt t8 t7))])
 (.seq (.cond t9 .skip (.exit 0))
 (.seq (.block 1 (.seq (.reg [(mI p10 (.ia 4 t6 t8)),
 (mI p11 (.lda 4 t10)),
 (.loc p5 [(.int .i64 (.ofNat 0)), (.str 0 0), .nils, (.int .i64 (.ofNat 0))]),
 (.mk none none (.st 4 t5 t11))])
 (.seq (.reg [(mI p12 (.fa 2 t5)),
 (mI p13 (.ld t12)),
 (mI p14 (.call p27 [t13])),
 (mI p15 (.fa 2 t5)),
 (.mk none none (.st 1 t15 t14))])
 (.reg [(mI p16 (.mv t3)),
 (mI p17 (.lda 4 t5)),
 (mI p18 (.bsl 1 4 [(.int .i64 (.ofNat 0)), (.str 0 0), .nils, (.int .i64 (.ofNat 0))] [(0, 4, t17)])),
 (mI p19 (.app 4 56 t16 t18)),
 (mI p3 (.mv t19))]))))
 (.reg [(mI p20 (.bin .add t8 (.c (.int .i64 (.ofNat 1))))),
 (mI p8 (.mv t20))])))))))
 (.seq (.reg [(mI p21 (.mv t3)),
 (mI p2 (.mv t21))])
 .ret))))
 [(.t p2)]
def ls26 : List Nat := [5]

/- delver/open.Syms -/
def f27 : Fd := .mk [p0]
 (.seq (.reg [(mI p2 (.mv (.c .nils)))])
 (.seq (.reg [(mI p3 (.mv (.c .nils)))])
 (.seq (.seq (.reg [(mI p6 (.mv t0)),
 (mI p7 (.len t6)),
 (mI p8 (.mv (.c (.int .i64 (.ofNat 0)))))])
 (.block 0 (.loop [p3, p6, p7, p8] (.seq (.reg [(mI p9 (.bin .lt t8 t7))])
 (.seq (.cond t9 .skip (.exit 0))
 (.seq (.block 1 (.seq (.reg [(mI p10 (.ia 4 t6 t8)),
 (mI p11 (.lda 4 t10)),
 (.loc p5 [(.int .i64 (.ofNat 0)), (.int .i64 (.ofNat 0)), .nils, (.int .i64 (.ofNat 0))]),
 (.mk none none (.st 4 t5 t11))])
 (.seq (.reg [(mI p12 (.fa 1 t5)),
 (mI p13 (.lda 2 t12)),
 (mI p14 (.call p25 [t13])),
 (mI p15 (.fa 1 t5)),
 (.mk none none (.st 2 t15 t14))])
 (.reg [(mI p16 (.mv t3)),
 (mI p17 (.lda 4 t5)),
 (mI p18 (.bsl 1 4 [(.int .i64 (.ofNat 0)), (.int .i64 (.ofNat 0)), .nils, (.int .i64 (.ofNat 0))] [(0, 4, t17)])),
 (mI p19 (.app 4 48 t16 t18)),
 (mI p3 (.mv t19))]))))
 (.reg [(mI p20 (.bin .add t8 (.c (.int .i64 (.ofNat 1))))),
 (mI p8 (.mv t20))])))))))
 (.seq (.reg [(mI p21 (.mv t3)),
 (mI p2 (.mv t21))])
 .ret))))
 [(.t p2)]
def ls27 : List Nat := [5]

/- slices.Clone[[]delver/api.SymFrame,delver/api.SymFrame] -/
def f28 : Fd := .mk [p0]
 (.seq (.reg [(mI p2 (.mv (.c .nils)))])
 (.seq (.seq (.reg [(mI p3 (.mv t0)),
 (mI p4 (.isnil false t3))])
 (.cond t4 (.seq (.reg [(mI p2 (.mv (.c .nils)))])
 .ret) .skip))
 (.seq (.reg [(mI p5 (.bsl 0 5 [] [])),
 (mI p6 (.mv t0)),
 (mI p7 (.app 5 88 t5 t6)),
 (mI p2 (.mv t7))])
 .ret)))
 [(.t p2)]
def ls28 : List Nat := []

/- (*delver/layout.Table).made -/
def f29 : Fd := .mk [p0]
 (.seq (.reg [(mI p2 (.mv (.c .nilp)))])
 (.seq (.reg [(mI p3 (.mv t0)),
 (mI p4 (.nc t3)),
 (mI p5 (.fa 0 t4)),
 (mI p6 (.mv t0)),
 (mI p7 (.mbf p44 [t6])),
 (mI p8 (.call p43 [t5, t7]))])
 (.seq (.reg [(mI p9 (.mv t0)),
 (mI p2 (.mv t9))])
 .ret)))
 [(.t p2)]
def ls29 : List Nat := []

/- (*delver/layout.Table).Class -/
def f30 : Fd := .mk [p0, p1]
 (.seq (.reg [(.loc p4 [(.str 0 0), (.bool false), (.str 0 0), .nils, .nils, .nils]),
 (mI p5 (.mv (.c (.bool false))))])
 (.seq (.reg [(mI p9 (.mv t0)),
 (mI p10 (.call p29 [t9])),
 (mI p11 (.nc t10)),
 (mI p12 (.fa 4 t11)),
 (mI p13 (.ld t12)),
 (mI p14 (.mv t1)),
 (mI p15 (.call p45 [t13, t14])),
 (mI p8 (.mv t15)),
 (mI p16 (.ex t8 0)),
 (mI p17 (.ex t8 1)),
 (.loc p6 [(.str 0 0), (.bool false), (.str 0 0), .nils, .nils, .nils]),
 (.mk none none (.st 6 t6 t16)),
 (mI p7 (.mv t17))])
 (.seq (.drw [(.mk true [p6] [p18] true (mI p18 (.vla 6 t6))),
 (.mk true [p7] [p19] true (mI p19 (.mv t7))),
 (.mk true [p19] [p20] true (mI p20 (.mv t19))),
 (.mk true [p0, p20] [p21] true (.mk (some p21) (some (p20, true)) (.mv t0))),
 (.mk true [p21, p20] [p22] true (.mk (some p22) (some (p20, true)) (.nc t21))),
 (.mk true [p22, p20] [p23] true (.mk (some p23) (some (p20, true)) (.fa 5 t22))),
 (.mk true [p23, p20] [p24] true (.mk (some p24) (some (p20, true)) (.ld t23))),
 (.mk true [p24, p20] [p25] true (.mk (some p25) (some (p20, true)) (.bin .eq t24 (.c (.int .i64 (.ofNat 0)))))),
 (.mk true [p20, p25] [p26] true (mI p26 (.pick t20 t25 (.c (.bool false))))),
 (.mk true [p4, p18] [p4] true (.mk none none (.st 6 t4 t18))),
 (.mk true [p26] [p5] true (mI p5 (.mv t26)))])
 .ret)))
 [(.cell p4 (some 6)), (.t p5)]
def ls30 : List Nat := [4, 6]

/- (*delver/layout.Table).Tree -/
def f32 : Fd := .mk [p0]
 (.seq (.reg [(mI p2 (.mv (.c .nilp)))])
 (.seq (.reg [(mI p3 (.mv t0)),
 (mI p4 (.call p29 [t3])),
 (mI p5 (.nc t4)),
 (mI p6 (.fa 4 t5)),
 (mI p7 (.ld t6)),
 (mI p2 (.mv t7))])
 .ret))
 [(.t p2)]
def ls32 : List Nat := []

/- (*delver/hier.Tree).Kinds -/
def f33 : Fd := .mk [p0, p1]
 (.seq (.reg [(mI p4 (.mv (.c .nils)))])
 (.seq (.reg [(mI p5 (.mv (.c .nils)))])
 (.seq (.seq (.reg [(mI p8 (.mv t0)),
 (mI p9 (.nc t8)),
 (mI p10 (.fa 2 t9)),
 (mI p11 (.ld t10)),
 (mI p12 (.bin .ne t11 (.c (.int .i64 (.ofNat 0)))))])
 (.cond t12 .bad .skip))
 (.seq (.seq (.drw [(.mk true [p0] [p13] true (mI p13 (.mv t0))),
 (.mk true [p13] [p14] true (mI p14 (.nc t13))),
 (.mk true [p14] [p15] true (mI p15 (.fa 1 t14))),
 (.mk true [p15] [p16] true (mI p16 (.ld t15))),
 (.mk true [p0] [p17] true (mI p17 (.mv t0))),
 (.mk true [p17] [p18] true (mI p18 (.nc t17))),
 (.mk true [p18] [p19] true (mI p19 (.fa 0 t18))),
 (.mk true [p19] [p20] true (mI p20 (.ld t19))),
 (.mk true [p16, p20] [p21] true (mI p21 (.sla 1 t16 (some t20) none none))),
 (.mk true [p21] [p22] true (mI p22 (.len t21))),
 (.mk true [] [p23] true (mI p23 (.mv (.c (.int .i64 (.ofNat 0))))))])
 (.block 0 (.loop [p0, p1, p5, p21, p22, p23] (.seq (.reg [(mI p24 (.bin .lt t23 t22))])
 (.seq (.cond t24 .skip (.exit 0))
 (.seq (.block 1 (.seq (.reg [(mI p25 (.ia 1 t21 t23)),
 (mI p26 (.ld t25)),
 (mI p7 (.mv t26))])
 (.seq (.reg [(mI p27 (.mv t0)),
 (mI p28 (.nc t27)),
 (mI p29 (.fa 3 t28)),
 (mI p30 (.ld t29)),
 (mI p31 (.mv t7)),
 (mI p32 (.mm (.mlk false [2] [(.str 0 0), (.bool false), (.str 0 0), .nils, .nils, .nils] true false) [t30, t31])),
 (mI p33 (.fi 1 t32)),
 (mI p34 (.not t33)),
 (mI p35 (.mv t34)),
 (.mk (some p36) (some (p35, true)) (.mv t0)),
 (.mk (some p37) (some (p35, true)) (.mv t7)),
 (.mk (some p38) (some (p35, true)) (.mv t1)),
 (.mk (some p39) (some (p35, true)) (.call p46 [t36, t37, t38])),
 (mI p40 (.pick t35 t39 (.c (.bool false))))])
 (.cond t40 (.reg [(mI p41 (.mv t5)),
 (mI p42 (.mv t7)),
 (mI p43 (.bsl 1 1 [(.str 0 0)] [(0, 1, t42)])),
 (mI p44 (.app 1 16 t41 t43)),
 (mI p5 (.mv t44))]) .bad))))
 (.reg [(mI p45 (.bin .add t23 (.c (.int .i64 (.ofNat 1))))),
 (mI p23 (.mv t45))])))))))
 (.seq (.reg [(mI p46 (.mv t5)),
 (mI p4 (.mv t46))])
 .ret)))))
 [(.t p4)]
def ls33 : List Nat := []

/- delver/run.TaskIn -/
def f34 : Fd := .mk [p0, p1, p2]
 (.seq (.reg [(.locb p4 t1),
 (.locb p5 t2),
 (.loc p6 [(.str 0 0), (.bool false), (.bool false), .nils, (.int .i64 (.ofNat 0)), (.str 0 0), (.int .i64 (.ofNat 0)), .nils, .nils]),
 (.loc p7 [(.str 0 0), (.bool false), (.bool false), .nils, (.int .i64 (.ofNat 0)), (.str 0 0), (.int .i64 (.ofNat 0)), .nils, .nils]),
 (mI p8 (.mv (.c (.int .i64 (.ofNat 0)))))])
 (.seq (.seq (.reg [(mI p16 (.mv t0)),
 (mI p17 (.lda 1 t4)),
 (mI p18 (.call p47 [t16, t17])),
 (mI p15 (.mv t18)),
 (mI p19 (.ex t15 0)),
 (mI p20 (.ex t15 1)),
 (mI p21 (.ex t15 2)),
 (mI p22 (.ex t15 3)),
 (mI p9 (.mv t19)),
 (mI p10 (.mv t20)),
 (mI p11 (.mv t21)),
 (mI p12 (.mv t22))])
 (.seq (.reg [(mI p23 (.mv t12)),
 (mI p24 (.bin .ne t23 (.c (.int .i64 (.ofNat 0)))))])
 (.cond t24 .bad .skip)))
 (.seq (.reg [(mI p29 (.mv t0)),
 (mI p30 (.fa 0 t5)),
 (mI p31 (.ld t30)),
 (mI p32 (.fa 1 t5)),
 (mI p33 (.ld t32)),
 (mI p34 (.call p48 [t29, t31, t33])),
 (mI p28 (.mv t34)),
 (mI p35 (.ex t28 0)),
 (mI p36 (.ex t28 1)),
 (.mk none none (.st 9 t6 t35)),
 (mI p13 (.mv t36))])
 (.seq (.reg [(mI p38 (.mv t0)),
 (mI p39 (.fa 0 t5)),
 (mI p40 (.ld t39)),
 (mI p41 (.fa 2 t5)),
 (mI p42 (.ld t41)),
 (mI p43 (.call p48 [t38, t40, t42])),
 (mI p37 (.mv t43)),
 (mI p44 (.ex t37 0)),
 (mI p45 (.ex t37 1)),
 (.mk none none (.st 9 t7 t44)),
 (mI p14 (.mv t45))])
 (.seq (.block 0 (.seq (.reg [(mI p47 (.mv t13)),
 (mI p48 (.not t47)),
 (mI p49 (.mv t48)),
 (.mk (some p50) (some (p49, false)) (.fa 1 t6)),
 (.mk (some p51) (some (p49, false)) (.ld t50)),
 (.mk (some p52) (some (p49, false)) (.not t51)),
 (mI p53 (.pick t49 (.c (.bool true)) t52)),
 (mI p54 (.mv t53)),
 (.mk (some p55) (some (p54, false)) (.fa 2 t5)),
 (.mk (some p56) (some (p54, false)) (.ld t55)),
 (.mk (some p57) (some (p54, false)) (.px (.seq true) [t56, (.c (.str 0 0))])),
 (.mk (some p58) (some (p54, false)) (.mv t57)),
 (.mk (some p59) (some (p58, true)) (.mv t14)),
 (.mk (some p60) (some (p58, true)) (.not t59)),
 (.mk (some p61) (some (p58, true)) (.mv t60)),
 (.mk (some p62) (some (p61, false)) (.fa 1 t7)),
 (.mk (some p63) (some (p61, false)) (.ld t62)),
 (.mk (some p64) (some (p61, false)) (.not t63)),
 (.mk (some p65) (some (p58, true)) (.pick t61 (.c (.bool true)) t64)),
 (.mk (some p66) (some (p54, false)) (.pick t58 t65 (.c (.bool false)))),
 (mI p67 (.pick t54 (.c (.bool true)) t66)),
 (mI p46 (.mv t67))])
 (.cond t46 .bad (.seq (.reg [(mI p71 (.fa 2 t5)),
 (mI p72 (.ld t71)),
 (mI p73 (.px (.seq true) [t72, (.c (.str 0 0))])),
 (mI p74 (.mv t73)),
 (.mk (some p75) (some (p74, true)) (.fa 3 t7)),
 (.mk (some p76) (some (p74, true)) (.ld t75)),
 (.mk (some p77) (some (p74, true)) (.fa 3 t6)),
 (.mk (some p78) (some (p74, true)) (.ld t77)),
 (.mk (some p79) (some (p74, true)) (.call p49 [t76, t78])),
 (.mk (some p80) (some (p74, true)) (.not t79)),
 (.mk (some p81) (some (p74, true)) (.mv t80)),
 (.mk (some p82) (some (p81, false)) (.fa 4 t7)),
 (.mk (some p83) (some (p81, false)) (.fa 0 t82)),
 (.mk (some p84) (some (p81, false)) (.ld t83)),
 (.mk (some p85) (some (p81, false)) (.bin .ne t84 (.c (.int .i64 (.ofNat 2))))),
 (.mk (some p86) (some (p74, true)) (.pick t81 (.c (.bool true)) t85)),
 (mI p87 (.pick t74 t86 (.c (.bool false)))),
 (mI p70 (.mv t87))])
 (.cond t70 .bad (.seq (.reg [(mI p91 (.fa 3 t5)),
 (mI p92 (.ld t91)),
 (mI p93 (.call p50 [t92, (.c (.int .i64 (.ofNat 0))), (.c (.int .i64 (.ofNat 3)))])),
 (mI p94 (.not t93)),
 (mI p95 (.mv t94)),
 (.mk (some p96) (some (p95, false)) (.fa 4 t5)),
 (.mk (some p97) (some (p95, false)) (.ld t96)),
 (.mk (some p98) (some (p95, false)) (.call p50 [t97, (.c (.int .i64 (.ofNat 0))), (.c (.int .i64 (.ofNat 3)))])),
 (.mk (some p99) (some (p95, false)) (.not t98)),
 (mI p100 (.pick t95 (.c (.bool true)) t99)),
 (mI p101 (.mv t100)),
 (.mk (some p102) (some (p101, false)) (.fa 5 t5)),
 (.mk (some p103) (some (p101, false)) (.ld t102)),
 (.mk (some p104) (some (p101, false)) (.call p50 [t103, (.c (.int .i64 (.ofNat 1))), (.c (.int .i64 (.ofNat 120)))])),
 (.mk (some p105) (some (p101, false)) (.not t104)),
 (mI p106 (.pick t101 (.c (.bool true)) t105)),
 (mI p107 (.mv t106)),
 (.mk (some p108) (some (p107, false)) (.fa 6 t5)),
 (.mk (some p109) (some (p107, false)) (.ld t108)),
 (.mk (some p110) (some (p107, false)) (.call p50 [t109, (.c (.int .i64 (.ofNat 1))), (.c (.int .i64 (.ofNat 1500)))])),
 (.mk (some p111) (some (p107, false)) (.not t110)),
 (mI p112 (.pick t107 (.c (.bool true)) t111)),
 (mI p113 (.mv t112)),
 (.mk (some p114) (some (p113, false)) (.fa 7 t5)),
 (.mk (some p115) (some (p113, false)) (.ld t114)),
 (.mk (some p116) (some (p113, false)) (.call p50 [t115, (.c (.int .i64 (.ofNat 0))), (.c (.int .i64 (.ofNat 4000)))])),
 (.mk (some p117) (some (p113, false)) (.not t116)),
 (mI p118 (.pick t113 (.c (.bool true)) t117)),
 (mI p90 (.mv t118))])
 (.cond t90 .bad .skip)))))))
 (.seq (.drw [(.mk true [p6] [p121] true (mI p121 (.vla 9 t6))),
 (.mk true [p7] [p122] true (mI p122 (.vla 9 t7))),
 (.mk true [p6, p121] [p6] true (.mk none none (.st 9 t6 t121))),
 (.mk true [p7, p122] [p7] true (.mk none none (.st 9 t7 t122))),
 (.mk true [] [p8] true (mI p8 (.mv (.c (.int .i64 (.ofNat 0))))))])
 .ret))))))
 [(.cell p6 (some 9)), (.cell p7 (some 9)), (.t p8)]
def ls34 : List Nat := [4, 5, 6, 7]

/- (*delver/walk.Walker).Root -/
def f35 : Fd := .mk [p0]
 (.seq (.reg [(.loc p2 [.nils, .nils, (.int .i64 (.ofNat 0)), .nils, .nils, (.int .i64 (.ofNat 0)), .nils, .nils, .nils, (.int .i64 (.ofNat 0)), (.int .i64 (.ofNat 0)), (.int .i64 (.ofNat 0)), (.int .i64 (.ofNat 0)), .nils, (.int .i64 (.ofNat 0)), (.int .i64 (.ofNat 0)), (.int .i64 (.ofNat 0))])])
 (.seq (.reg [(mI p8 (.mv t0)),
 (mI p9 (.nc t8)),
 (mI p10 (.fa 9 t9)),
 (mI p11 (.fa 3 t10)),
 (mI p12 (.ld t11)),
 (mI p13 (.call p51 [t12])),
 (mI p7 (.mv t13)),
 (mI p14 (.ex t7 0)),
 (mI p15 (.ex t7 1)),
 (mI p16 (.ex t7 2)),
 (.loc p3 [.nils, .nils]),
 (.mk none none (.st 2 t3 t14)),
 (mI p4 (.mv t15)),
 (mI p5 (.mv t16))])
 (.seq (.reg [(mI p17 (.lda 2 t3)),
 (mI p18 (.mv t4)),
 (mI p19 (.bld [.nils, .nils, (.int .i64 (.ofNat 0)), .nils, .nils, (.int .i64 (.ofNat 0)), .nils, .nils, .nils, (.int .i64 (.ofNat 0)), (.int .i64 (.ofNat 0)), (.int .i64 (.ofNat 0)), (.int .i64 (.ofNat 0)), .nils, (.int .i64 (.ofNat 0))] [(0, 2, t17), (2, 1, t18), (5, 1, (.c (.int .i64 (.ofNat 1))))])),
 (.loc p6 [.nils, .nils, (.int .i64 (.ofNat 0)), .nils, .nils, (.int .i64 (.ofNat 0)), .nils, .nils, .nils, (.int .i64 (.ofNat 0)), (.int .i64 (.ofNat 0)), (.int .i64 (.ofNat 0)), (.int .i64 (.ofNat 0)), .nils, (.int .i64 (.ofNat 0))]),
 (.mk none none (.st 15 t6 t19))])
 (.seq (.seq (.reg [(mI p20 (.mv t0)),
 (mI p21 (.nc t20)),
 (mI p22 (.fa 1 t21)),
 (mI p23 (.fa 2 t22)),
 (mI p24 (.ld t23)),
 (mI p25 (.px (.seq true) [t24, (.c (.str 0 0))]))])
 (.cond t25 .bad .skip))
 (.seq (.reg [(mI p27 (.mv t0)),
 (mI p28 (.lda 15 t6)),
 (mI p29 (.call p52 [t27, t28])),
 (mI p30 (.bld [.nils, .nils, (.int .i64 (.ofNat 0)), .nils, .nils, (.int .i64 (.ofNat 0)), .nils, .nils, .nils, (.int .i64 (.ofNat 0)), (.int .i64 (.ofNat 0)), (.int .i64 (.ofNat 0)), (.int .i64 (.ofNat 0)), .nils, (.int .i64 (.ofNat 0)), (.int .i64 (.ofNat 0)), (.int .i64 (.ofNat 0))] [(0, 15, t29)])),
 (.mk none none (.st 17 t2 t30))])
 .ret)))))
 [(.cell p2 (some 17))]
def ls35 : List Nat := [2, 3, 6]

/- delver/open.First -/
def f36 : Fd := .mk [p0]
 (.seq (.reg [(.locb p1 t0),
 (mI p2 (.mv (.c (.int .i64 (.ofNat 0)))))])
 (.seq (.reg [(mI p3 (.fa 0 t1)),
 (mI p4 (.ld t3)),
 (mI p5 (.call p53 [t4, (.c (.fn p54 []))])),
 (mI p2 (.mv t5))])
 .ret))
 [(.t p2)]
def ls36 : List Nat := [1]

/- (*delver/walk.Walker).args -/
def f37 : Fd := .mk [p0, p1, p2]
 (.seq (.reg [(.locb p4 t1),
 (.loc p6 [(.int .i64 (.ofNat 0)), (.int .i64 (.ofNat 0)), .nils])])
 (.seq (.reg [(.loc p7 [(.int .i64 (.ofNat 0)), (.int .i64 (.ofNat 0)), .nils])])
 (.seq (.seq (.drw [(.mk true [p0] [p11] true (mI p11 (.mv t0))),
 (.mk true [p11] [p12] true (mI p12 (.nc t11))),
 (.mk true [p12] [p13] true (mI p13 (.fa 0 t12))),
 (.mk true [p13] [p14] true (mI p14 (.ld t13))),
 (.mk true [p0] [p15] true (mI p15 (.mv t0))),
 (.mk true [p15] [p16] true (mI p16 (.nc t15))),
 (.mk true [p16] [p17] true (mI p17 (.fa 9 t16))),
 (.mk true [p17] [p18] true (mI p18 (.fa 3 t17))),
 (.mk true [p18] [p19] true (mI p19 (.ld t18))),
 (.mk true [p2] [p20] true (mI p20 (.mv t2))),
 (.mk true [p19, p20] [p21] true (mI p21 (.ia 2 t19 t20))),
 (.mk true [p21] [p22] true (mI p22 (.lda 2 t21))),
 (.mk true [p4] [p23] true (mI p23 (.fa 0 t4))),
 (.mk true [p4, p23] [p24] true (mI p24 (.vla 2 t23))),
 (.mk true [p24] [p25] true (mI p25 (.call p55 [t24]))),
 (.mk true [p0] [p26] true (mI p26 (.mv t0))),
 (.mk true [p26] [p27] true (mI p27 (.nc t26))),
 (.mk true [p27] [p28] true (mI p28 (.fa 1 t27))),
 (.mk true [p28] [p29] true (mI p29 (.fa 3 t28))),
 (.mk true [p29] [p30] true (mI p30 (.ld t29))),
 (.mk true [p0] [p31] true (mI p31 (.mv t0))),
 (.mk true [p31] [p32] true (mI p32 (.nc t31))),
 (.mk true [p32] [p33] true (mI p33 (.fa 1 t32))),
 (.mk true [p33] [p34] true (mI p34 (.fa 4 t33))),
 (.mk true [p34] [p35] true (mI p35 (.ld t34))),
 (.mk true [p14, p22, p25, p30, p35] [p36] false (mI p36 (.call p17 [t14, t22, t25, t30, t35]))),
 (.mk true [p36] [p37] true (mI p37 (.len t36))),
 (.mk true [] [p38] true (mI p38 (.mv (.c (.int .i64 (.ofNat 0))))))])
 (.block 0 (.loop [p0, p2, p4, p6, p7, p36, p37, p38] (.seq (.reg [(mI p39 (.bin .lt t38 t37))])
 (.seq (.cond t39 .skip (.exit 0))
 (.seq (.block 1 (.seq (.reg [(mI p40 (.ia 4 t36 t38)),
 (mI p41 (.lda 4 t40)),
 (.loc p9 [(.int .i64 (.ofNat 0)), (.int .i64 (.ofNat 0)), (.int .i64 (.ofNat 0)), (.str 0 0)]),
 (.mk none none (.st 4 t9 t41))])
 (.seq (.reg [(mI p42 (.mv t0)),
 (mI p43 (.lda 15 t4)),
 (mI p44 (.call p56 [t42, t43])),
 (mI p10 (.mv t44))])
 (.seq (.seq (.reg [(mI p45 (.mv t10)),
 (mI p46 (.mv t2)),
 (mI p47 (.lda 4 t9)),
 (mI p48 (.call p57 [t45, t46, t47])),
 (mI p49 (.not t48))])
 (.cond t49 .bad .skip))
 (.drw [(.mk true [p7] [p51] true (mI p51 (.fa 2 t7))),
 (.mk true [p7, p51] [p52] true (mI p52 (.vla 0 t51))),
 (.mk true [p0] [p53] true (mI p53 (.mv t0))),
 (.mk true [p10] [p54] true (mI p54 (.mv t10))),
 (.mk true [p54] [p55] true (mI p55 (.nc t54))),
 (.mk true [p55] [p56] true (mI p56 (.fa 1 t55))),
 (.mk true [p56] [p57] true (mI p57 (.lda 15 t56))),
 (.mk true [p53, p57] [p58] false (mI p58 (.call p52 [t53, t57]))),
 (.mk true [p58] [p59] true (mI p59 (.bld [.nils, .nils, .nils, (.int .i64 (.ofNat 0)), .nils, .nils, (.int .i64 (.ofNat 0)), .nils, .nils, .nils, (.int .i64 (.ofNat 0)), (.int .i64 (.ofNat 0)), (.int .i64 (.ofNat 0)), (.int .i64 (.ofNat 0)), .nils, (.int .i64 (.ofNat 0))] [(1, 15, t58)]))),
 (.mk true [p59] [p60] true (mI p60 (.bsl 1 16 [.nils, .nils, .nils, (.int .i64 (.ofNat 0)), .nils, .nils, (.int .i64 (.ofNat 0)), .nils, .nils, .nils, (.int .i64 (.ofNat 0)), (.int .i64 (.ofNat 0)), (.int .i64 (.ofNat 0)), (.int .i64 (.ofNat 0)), .nils, (.int .i64 (.ofNat 0))] [(0, 16, t59)]))),
 (.mk true [p52, p60] [p61] false (mI p61 (.app 16 272 t52 t60))),
 (.mk true [p7] [p62] true (mI p62 (.fa 2 t7))),
 (.mk true [p7, p62, p61] [p7] true (.mk none none (.st 1 t62 t61)))])))))
 (.reg [(mI p63 (.bin .add t38 (.c (.int .i64 (.ofNat 1))))),
 (mI p38 (.mv t63))])))))))
 (.seq (.reg [(mI p64 (.lda 3 t7)),
 (.mk none none (.st 3 t6 t64))])
 .ret))))
 [(.cell p6 (some 3))]
def ls37 : List Nat := [4, 6, 7, 9]

/- delver/walk.leaf -/
def f39 : Fd := .mk [p0]
 (.seq (.reg [(.loc p2 [(.int .i64 (.ofNat 0)), (.int .i64 (.ofNat 0)), .nils])])
 (.seq (.reg [(mI p3 (.mv t0)),
 (mI p4 (.bld [(.int .i64 (.ofNat 0)), (.int .i64 (.ofNat 0)), .nils] [(0, 1, t3)])),
 (.mk none none (.st 3 t2 t4))])
 .ret))
 [(.cell p2 (some 3))]
def ls39 : List Nat := [2]

/- (*delver/walk.Walker).does -/
def f40 : Fd := .mk [p0, p1]
 (.seq (.reg [(.locb p3 t1),
 (.loc p4 [(.int .i64 (.ofNat 0)), (.int .i64 (.ofNat 0)), .nils])])
 (.seq (.reg [(mI p15 (.fa 8 t3)),
 (mI p16 (.ld t15)),
 (mI p17 (.fa 8 t3)),
 (mI p18 (.ld t17)),
 (mI p19 (.len t18)),
 (mI p20 (.bin .sub t19 (.c (.int .i64 (.ofNat 1))))),
 (mI p21 (.ia 5 t16 t20)),
 (mI p22 (.lda 5 t21)),
 (.loc p5 [(.str 0 0), (.str 0 0), (.int .i64 (.ofNat 0)), .nils, .nils]),
 (.mk none none (.st 5 t5 t22))])
 (.seq (.drw [(.mk true [p0] [p24] true (mI p24 (.mv t0))),
 (.mk true [p24] [p25] true (mI p25 (.nc t24))),
 (.mk true [p25] [p26] true (mI p26 (.fa 0 t25))),
 (.mk true [p26] [p27] true (mI p27 (.ld t26))),
 (.mk true [p5] [p28] true (mI p28 (.fa 0 t5))),
 (.mk true [p5, p28] [p29] true (mI p29 (.vla 0 t28))),
 (.mk true [p5] [p30] true (mI p30 (.fa 1 t5))),
 (.mk true [p5, p30] [p31] true (mI p31 (.vla 0 t30))),
 (.mk true [p27, p29, p31] [p32] true (mI p32 (.call p62 [t27, t29, t31]))),
 (.mk true [p32] [p23] true (mI p23 (.mv t32))),
 (.mk true [p23] [p33] true (mI p33 (.ex t23 0))),
 (.mk true [p23] [p34] true (mI p34 (.ex t23 1))),
 (.mk true [p23] [p35] true (mI p35 (.ex t23 2))),
 (.mk true [p7] [p7] true (.loc p7 [(.str 0 0), (.bool false), (.bool false), .nils, (.int .i64 (.ofNat 0)), (.str 0 0), (.int .i64 (.ofNat 0)), .nils, .nils])),
 (.mk true [p33] [p6] true (mI p6 (.mv t33))),
 (.mk true [p7, p34] [p7] true (.mk none none (.st 9 t7 t34))),
 (.mk true [p35] [p8] true (mI p8 (.mv t35)))])
 (.seq (.reg [(mI p36 (.fa 7 t7)),
 (mI p37 (.ld t36)),
 (mI p38 (.fa 2 t5)),
 (mI p39 (.ld t38)),
 (mI p40 (.ia 4 t37 t39)),
 (mI p41 (.lda 4 t40)),
 (.loc p9 [(.int .i64 (.ofNat 0)), (.int .i64 (.ofNat 0)), (.str 0 0), (.str 0 0)]),
 (.mk none none (.st 4 t9 t41))])
 (.seq (.reg [(mI p42 (.mv t0)),
 (mI p43 (.lda 15 t3)),
 (mI p44 (.call p56 [t42, t43])),
 (mI p10 (.mv t44))])
 (.seq (.reg [(mI p45 (.mv t10)),
 (mI p46 (.nc t45)),
 (mI p47 (.fa 1 t46)),
 (mI p48 (.fa 9 t47)),
 (mI p49 (.ld t48)),
 (mI p50 (.bin .add t49 (.c (.int .i64 (.ofNat 1))))),
 (mI p51 (.nc t45)),
 (mI p52 (.fa 1 t51)),
 (mI p53 (.fa 9 t52)),
 (.mk none none (.st 1 t53 t50))])
 (.seq (.seq (.reg [(mI p54 (.mv t0)),
 (mI p55 (.mbf p63 [t54])),
 (mI p56 (.mv t0)),
 (mI p57 (.mbf p64 [t56])),
 (mI p58 (.mv t0)),
 (mI p59 (.mbf p65 [t58])),
 (mI p60 (.mv t0)),
 (mI p61 (.mbf p66 [t60])),
 (mI p62 (.mv t0)),
 (mI p63 (.mbf p67 [t62])),
 (mI p64 (.bsl 5 1 [.nilf, .nilf, .nilf, .nilf, .nilf] [(0, 1, t55), (1, 1, t57), (2, 1, t59), (3, 1, t61), (4, 1, t63)])),
 (mI p65 (.len t64)),
 (mI p66 (.mv (.c (.int .i64 (.ofNat 0)))))])
 (.block 0 (.loop [p0, p3, p4, p9, p10, p64, p65, p66] (.seq (.reg [(mI p67 (.bin .lt t66 t65))])
 (.seq (.cond t67 .skip (.exit 0))
 (.seq (.block 1 (.seq (.reg [(mI p68 (.ia 1 t64 t66)),
 (mI p69 (.ld t68)),
 (mI p12 (.mv t69))])
 (.seq (.reg [(mI p71 (.mv t12)),
 (mI p72 (.mv t10)),
 (mI p73 (.lda 15 t3)),
 (mI p74 (.lda 4 t9)),
 (mI p75 (.callv t71 [t72, t73, t74])),
 (mI p70 (.mv t75)),
 (mI p76 (.ex t70 0)),
 (mI p77 (.ex t70 1)),
 (.loc p13 [(.int .i64 (.ofNat 0)), (.int .i64 (.ofNat 0)), .nils]),
 (.mk none none (.st 3 t13 t76)),
 (mI p14 (.mv t77))])
 (.seq (.reg [(mI p78 (.mv t14))])
 (.cond t78 (.seq (.reg [(mI p79 (.lda 3 t13)),
 (.mk none none (.st 3 t4 t79))])
 .ret) .skip)))))
 (.reg [(mI p80 (.bin .add t66 (.c (.int .i64 (.ofNat 1))))),
 (mI p66 (.mv t80))])))))))
 (.seq (.reg [(mI p81 (.mv t0)),
 (mI p82 (.mv t10)),
 (mI p83 (.lda 4 t9)),
 (mI p84 (.call p68 [t81, t82, t83])),
 (.mk none none (.st 3 t4 t84))])
 .ret))))))))
 [(.cell p4 (some 3))]
def ls40 : List Nat := [3, 4, 5, 7, 9, 13]

/- slices.Clone[[]delver/api.Mono,delver/api.Mono] -/
def f42 : Fd := .mk [p0]
 (.seq (.reg [(mI p2 (.mv (.c .nils)))])
 (.seq (.seq (.reg [(mI p3 (.mv t0)),
 (mI p4 (.isnil false t3))])
 (.cond t4 (.seq (.reg [(mI p2 (.mv (.c .nils)))])
 .ret) .bad))
 .bad))
 [(.t p2)]
def ls42 : List Nat := []

/- (*sync.Once).Do -/
def f43 : Fd := .onc

/- (*delver/layout.Table).make -/
def f44 : Fd := .mk [p0]
 (.seq (.reg [(mI p12 (.mv t0)),
 (mI p13 (.mv t0)),
 (mI p14 (.nc t13)),
 (mI p15 (.fa 3 t14)),
 (mI p16 (.lda 1 t15)),
 (mI p17 (.call p72 [t16])),
 (mI p18 (.nc t12)),
 (mI p19 (.fa 4 t18)),
 (.mk none none (.st 1 t19 t17))])
 (.seq (.reg [(mI p20 (.mv t0)),
 (mI p21 (.mv t0)),
 (mI p22 (.nc t21)),
 (mI p23 (.fa 4 t22)),
 (mI p24 (.ld t23)),
 (mI p25 (.nc t24)),
 (mI p26 (.fa 2 t25)),
 (mI p27 (.ld t26)),
 (mI p28 (.nc t20)),
 (mI p29 (.fa 5 t28)),
 (.mk none none (.st 1 t29 t27))])
 (.seq (.seq (.reg [(mI p30 (.mv t0)),
 (mI p31 (.nc t30)),
 (mI p32 (.fa 5 t31)),
 (mI p33 (.ld t32)),
 (mI p34 (.bin .ne t33 (.c (.int .i64 (.ofNat 0)))))])
 (.cond t34 .bad .skip))
 (.seq (.reg [(mI p35 (.mv t0)),
 (mI p36 (.mv t0)),
 (mI p37 (.mm .mmk [])),
 (mI p38 (.mm .mmk [])),
 (mI p39 (.nc t35)),
 (mI p40 (.fa 6 t39)),
 (.mk none none (.st 1 t40 t37)),
 (mI p41 (.nc t36)),
 (mI p42 (.fa 7 t41)),
 (.mk none none (.st 1 t42 t38))])
 (.seq (.reg [(mI p43 (.mv t0)),
 (mI p44 (.mv t0)),
 (mI p45 (.mm .mmk [])),
 (mI p46 (.mm .mmk [])),
 (mI p47 (.nc t43)),
 (mI p48 (.fa 9 t47)),
 (.mk none none (.st 1 t48 t45)),
 (mI p49 (.nc t44)),
 (mI p50 (.fa 10 t49)),
 (.mk none none (.st 1 t50 t46))])
 (.seq (.seq (.reg [(mI p51 (.mv t0)),
 (mI p52 (.nc t51)),
 (mI p53 (.fa 4 t52)),
 (mI p54 (.ld t53)),
 (mI p55 (.nc t54)),
 (mI p56 (.fa 1 t55)),
 (mI p57 (.ld t56)),
 (mI p58 (.len t57)),
 (mI p59 (.mv (.c (.int .i64 (.ofNat 0)))))])
 (.block 0 (.loop [p0, p57, p58, p59] (.seq (.reg [(mI p60 (.bin .lt t59 t58))])
 (.seq (.cond t60 .skip (.exit 0))
 (.seq (.block 1 (.seq (.reg [(mI p61 (.ia 1 t57 t59)),
 (mI p62 (.ld t61)),
 (mI p3 (.mv t62))])
 (.seq (.reg [(mI p64 (.mv t0)),
 (mI p65 (.nc t64)),
 (mI p66 (.fa 4 t65)),
 (mI p67 (.ld t66)),
 (mI p68 (.mv t3)),
 (mI p69 (.call p45 [t67, t68])),
 (mI p63 (.mv t69)),
 (mI p70 (.ex t63 0)),
 (mI p71 (.ex t63 1)),
 (.loc p4 [(.str 0 0), (.bool false), (.str 0 0), .nils, .nils, .nils]),
 (.mk none none (.st 6 t4 t70)),
 (mI p5 (.mv t71))])
 (.seq (.seq (.reg [(mI p72 (.fa 1 t4)),
 (mI p73 (.ld t72)),
 (mI p74 (.not t73))])
 (.cond t74 (.reg [(mI p75 (.mv t0)),
 (mI p76 (.mv t3)),
 (mI p77 (.call p73 [t75, t76]))]) .bad))
 (.seq (.reg [(mI p78 (.fa 4 t4)),
 (mI p79 (.ld t78)),
 (mI p80 (.len t79)),
 (mI p81 (.mv (.c (.int .i64 (.ofNat 0)))))])
 (.block 2 (.loop [p0, p3, p57, p58, p59, p79, p80, p81] (.seq (.reg [(mI p82 (.bin .lt t81 t80))])
 (.seq (.cond t82 .skip (.exit 2))
 (.seq (.block 3 (.seq (.reg [(mI p83 (.ia 4 t79 t81)),
 (mI p84 (.lda 4 t83)),
 (.loc p7 [(.str 0 0), (.int .i64 (.ofNat 0)), (.str 0 0), (.bool false)]),
 (.mk none none (.st 4 t7 t84))])
 (.seq (.reg [(mI p85 (.fa 3 t7)),
 (mI p86 (.ld t85))])
 (.cond t86 .bad .skip))))
 (.reg [(mI p102 (.bin .add t81 (.c (.int .i64 (.ofNat 1))))),
 (mI p81 (.mv t102))])))))))))))
 (.reg [(mI p103 (.bin .add t59 (.c (.int .i64 (.ofNat 1))))),
 (mI p59 (.mv t103))])))))))
 (.seq (.reg [(mI p104 (.mv t0)),
 (mI p105 (.mbf p74 [t104])),
 (mI p106 (.mv t0)),
 (mI p107 (.mbf p75 [t106])),
 (mI p108 (.mv t0)),
 (mI p109 (.mbf p76 [t108])),
 (mI p110 (.bsl 3 1 [.nilf, .nilf, .nilf] [(0, 1, t105), (1, 1, t107), (2, 1, t109)])),
 (mI p111 (.len t110)),
 (mI p112 (.mv (.c (.int .i64 (.ofNat 0)))))])
 (.block 4 (.loop [p0, p110, p111, p112] (.seq (.reg [(mI p113 (.bin .lt t112 t111))])
 (.seq (.cond t113 .skip (.exit 4))
 (.seq (.block 5 (.seq (.reg [(mI p114 (.ia 1 t110 t112)),
 (mI p115 (.ld t114)),
 (mI p9 (.mv t115))])
 (.seq (.reg [(mI p116 (.mv t0)),
 (mI p117 (.nc t116)),
 (mI p118 (.fa 3 t117)),
 (mI p119 (.fa 0 t118)),
 (mI p120 (.ld t119)),
 (mI p121 (.len t120)),
 (mI p122 (.mv (.c (.int .i64 (.ofNat 0)))))])
 (.block 6 (.loop [p0, p9, p110, p111, p112, p120, p121, p122] (.seq (.reg [(mI p123 (.bin .lt t122 t121))])
 (.seq (.cond t123 .skip (.exit 6))
 (.seq (.block 7 (.seq (.reg [(mI p124 (.ia 6 t120 t122)),
 (mI p125 (.lda 6 t124)),
 (.loc p11 [(.str 0 0), (.bool false), (.str 0 0), .nils, .nils, .nils]),
 (.mk none none (.st 6 t11 t125))])
 (.seq (.reg [(mI p126 (.mv t0)),
 (mI p127 (.nc t126)),
 (mI p128 (.fa 5 t127)),
 (mI p129 (.ld t128)),
 (mI p130 (.bin .eq t129 (.c (.int .i64 (.ofNat 0)))))])
 (.cond t130 (.reg [(mI p131 (.mv t0)),
 (mI p132 (.mv t9)),
 (mI p133 (.lda 6 t11)),
 (mI p134 (.callv t132 [t133])),
 (mI p135 (.nc t131)),
 (mI p136 (.fa 5 t135)),
 (.mk none none (.st 1 t136 t134))]) .bad))))
 (.reg [(mI p137 (.bin .add t122 (.c (.int .i64 (.ofNat 1))))),
 (mI p122 (.mv t137))])))))))))
 (.reg [(mI p138 (.bin .add t112 (.c (.int .i64 (.ofNat 1))))),
 (mI p112 (.mv t138))])))))))))))))
 []
def ls44 : List Nat := [4, 7, 11]

/- (*delver/hier.Tree).Class -/
def f45 : Fd := .mk [p0, p1]
 (.seq (.reg [(.loc p4 [(.str 0 0), (.bool false), (.str 0 0), .nils, .nils, .nils]),
 (mI p5 (.mv (.c (.bool false))))])
 (.seq (.reg [(mI p9 (.mv t0)),
 (mI p10 (.nc t9)),
 (mI p11 (.fa 3 t10)),
 (mI p12 (.ld t11)),
 (mI p13 (.mv t1)),
 (mI p14 (.mm (.mlk false [2] [(.str 0 0), (.bool false), (.str 0 0), .nils, .nils, .nils] true true) [t12, t13])),
 (mI p8 (.mv t14)),
 (mI p15 (.ex t8 0)),
 (mI p16 (.ex t8 1)),
 (.loc p6 [(.str 0 0), (.bool false), (.str 0 0), .nils, .nils, .nils]),
 (.mk none none (.st 6 t6 t15)),
 (mI p7 (.mv t16))])
 (.seq (.drw [(.mk true [p6] [p17] true (mI p17 (.vla 6 t6))),
 (.mk true [p7] [p18] true (mI p18 (.mv t7))),
 (.mk true [p18] [p19] true (mI p19 (.mv t18))),
 (.mk true [p0, p19] [p20] true (.mk (some p20) (some (p19, true)) (.mv t0))),
 (.mk true [p20, p19] [p21] true (.mk (some p21) (some (p19, true)) (.nc t20))),
 (.mk true [p21, p19] [p22] true (.mk (some p22) (some (p19, true)) (.fa 2 t21))),
 (.mk true [p22, p19] [p23] true (.mk (some p23) (some (p19, true)) (.ld t22))),
 (.mk true [p23, p19] [p24] true (.mk (some p24) (some (p19, true)) (.bin .eq t23 (.c (.int .i64 (.ofNat 0)))))),
 (.mk true [p19, p24] [p25] true (mI p25 (.pick t19 t24 (.c (.bool false))))),
 (.mk true [p4, p17] [p4] true (.mk none none (.st 6 t4 t17))),
 (.mk true [p25] [p5] true (mI p5 (.mv t25)))])
 .ret)))
 [(.cell p4 (some 6)), (.t p5)]
def ls45 : List Nat := [4, 6]

/- (*delver/hier.Tree).Under -/
def f46 : Fd := .mk [p0, p1, p2]
 (.seq (.reg [(mI p6 (.mv (.c (.bool false))))])
 (.seq (.reg [(mI p7 (.mv t0)),
 (mI p8 (.nc t7)),
 (mI p9 (.fa 2 t8)),
 (mI p10 (.ld t9)),
 (mI p11 (.bin .eq t10 (.c (.int .i64 (.ofNat 0))))),
 (mI p12 (.mv t11)),
 (.mk (some p13) (some (p12, true)) (.mv t0)),
 (.mk (some p14) (some (p12, true)) (.nc t13)),
 (.mk (some p15) (some (p12, true)) (.fa 4 t14)),
 (.mk (some p16) (some (p12, true)) (.ld t15)),
 (.mk (some p17) (some (p12, true)) (.mv t1)),
 (.mk (some p18) (some (p12, true)) (.mm (.mlk false [2] [.nilm] false false) [t16, t17])),
 (.mk (some p19) (some (p12, true)) (.mv t2)),
 (.mk (some p20) (some (p12, true)) (.mm (.mlk false [2] [(.bool false)] false false) [t18, t19])),
 (mI p21 (.pick t12 t20 (.c (.bool false)))),
 (mI p6 (.mv t21))])
 .ret))
 [(.t p6)]
def ls46 : List Nat := []

/- delver/flow.CheckIn -/
def f47 : Fd := .mk [p0, p1]
 (.seq (.reg [(.locb p3 t1),
 (mI p4 (.mv (.c (.str 0 0)))),
 (mI p5 (.mv (.c (.str 0 0)))),
 (mI p6 (.mv (.c (.int .i64 (.ofNat 0))))),
 (mI p7 (.mv (.c (.int .i64 (.ofNat 0)))))])
 (.seq (.seq (.reg [(mI p15 (.mv t0)),
 (mI p16 (.call p15 [t15])),
 (mI p17 (.bin .ne t16 (.c (.int .i64 (.ofNat 0)))))])
 (.cond t17 .bad .skip))
 (.seq (.seq (.reg [(mI p20 (.fa 0 t3)),
 (mI p21 (.ld t20)),
 (mI p22 (.len t21)),
 (mI p23 (.mv (.c (.int .i64 (.ofNat 0)))))])
 (.block 0 (.loop [p0, p21, p22, p23] (.seq (.reg [(mI p24 (.bin .lt t23 t22))])
 (.seq (.cond t24 .skip (.exit 0))
 (.seq (.block 1 (.seq (.reg [(mI p25 (.ia 6 t21 t23)),
 (mI p26 (.lda 6 t25)),
 (.loc p9 [(.str 0 0), (.bool false), (.str 0 0), .nils, .nils, .nils]),
 (.mk none none (.st 6 t9 t26))])
 (.seq (.reg [(mI p27 (.fa 5 t9)),
 (mI p28 (.ld t27)),
 (mI p29 (.len t28)),
 (mI p30 (.mv (.c (.int .i64 (.ofNat 0)))))])
 (.block 2 (.loop [p0, p9, p21, p22, p23, p28, p29, p30] (.seq (.reg [(mI p31 (.bin .lt t30 t29))])
 (.seq (.cond t31 .skip (.exit 2))
 (.seq (.block 3 (.seq (.reg [(mI p32 (.ia 9 t28 t30)),
 (mI p33 (.lda 9 t32)),
 (.loc p11 [(.str 0 0), (.bool false), (.bool false), .nils, (.int .i64 (.ofNat 0)), (.str 0 0), (.int .i64 (.ofNat 0)), .nils, .nils]),
 (.mk none none (.st 9 t11 t33))])
 (.seq (.seq (.reg [(mI p34 (.fa 2 t11)),
 (mI p35 (.ld t34))])
 (.cond t35 .bad .skip))
 (.seq (.reg [(mI p37 (.mv t0)),
 (mI p38 (.fa 0 t9)),
 (mI p39 (.ld t38)),
 (mI p40 (.lda 9 t11)),
 (mI p41 (.call p77 [t37, t39, t40])),
 (mI p36 (.mv t41)),
 (mI p42 (.ex t36 0)),
 (mI p43 (.ex t36 1)),
 (mI p44 (.ex t36 2)),
 (mI p12 (.mv t42)),
 (mI p13 (.mv t43)),
 (mI p14 (.mv t44))])
 (.seq (.reg [(mI p45 (.mv t14)),
 (mI p46 (.bin .ne t45 (.c (.int .i64 (.ofNat 0)))))])
 (.cond t46 .bad .skip))))))
 (.reg [(mI p53 (.bin .add t30 (.c (.int .i64 (.ofNat 1))))),
 (mI p30 (.mv t53))])))))))))
 (.reg [(mI p54 (.bin .add t23 (.c (.int .i64 (.ofNat 1))))),
 (mI p23 (.mv t54))])))))))
 (.seq (.reg [(mI p4 (.mv (.c (.str 0 0)))),
 (mI p5 (.mv (.c (.str 0 0)))),
 (mI p6 (.mv (.c (.int .i64 (.ofNat 0))))),
 (mI p7 (.mv (.c (.int .i64 (.ofNat 0)))))])
 .ret))))
 [(.t p4), (.t p5), (.t p6), (.t p7)]
def ls47 : List Nat := [3, 9, 11]

/- delver/flow.Own -/
def f48 : Fd := .mk [p0, p1, p2]
 (.seq (.reg [(mI p5 (.bx t2)),
 (.loc p6 [(.str 0 0), (.bool false), (.bool false), .nils, (.int .i64 (.ofNat 0)), (.str 0 0), (.int .i64 (.ofNat 0)), .nils, .nils]),
 (mI p7 (.mv (.c (.bool false))))])
 (.seq (.reg [(mI p12 (.mv t0)),
 (mI p13 (.mv t1)),
 (mI p14 (.call p30 [t12, t13])),
 (mI p11 (.mv t14)),
 (mI p15 (.ex t11 0)),
 (mI p16 (.ex t11 1)),
 (.loc p8 [(.str 0 0), (.bool false), (.str 0 0), .nils, .nils, .nils]),
 (.mk none none (.st 6 t8 t15)),
 (mI p9 (.mv t16))])
 (.seq (.reg [(mI p17 (.fa 5 t8)),
 (mI p18 (.ld t17)),
 (mI p19 (.mfn p79 [t5])),
 (mI p20 (.call p78 [t18, t19])),
 (mI p10 (.mv t20))])
 (.seq (.seq (.reg [(mI p21 (.mv t9)),
 (mI p22 (.not t21)),
 (mI p23 (.mv t22)),
 (.mk (some p24) (some (p23, false)) (.mv t10)),
 (.mk (some p25) (some (p23, false)) (.bin .lt t24 (.c (.int .i64 (.ofNat 0))))),
 (mI p26 (.pick t23 (.c (.bool true)) t25))])
 (.cond t26 (.seq (.reg [(mI p27 (.bld [(.str 0 0), (.bool false), (.bool false), .nils, (.int .i64 (.ofNat 0)), (.str 0 0), (.int .i64 (.ofNat 0)), .nils, .nils] [])),
 (.mk none none (.st 9 t6 t27)),
 (mI p7 (.mv (.c (.bool false))))])
 .ret) .skip))
 (.seq (.reg [(mI p28 (.fa 5 t8)),
 (mI p29 (.ld t28)),
 (mI p30 (.mv t10)),
 (mI p31 (.ia 9 t29 t30)),
 (mI p32 (.lda 9 t31)),
 (.mk none none (.st 9 t6 t32)),
 (mI p7 (.mv (.c (.bool true))))])
 .ret)))))
 [(.cell p6 (some 9)), (.t p7)]
def ls48 : List Nat := [6, 8]

/- delver/run.in -/
def f50 : Fd := .mk [p0, p1, p2]
 (.seq (.reg [(mI p6 (.mv (.c (.bool false))))])
 (.seq (.reg [(mI p7 (.mv t0)),
 (mI p8 (.mv t1)),
 (mI p9 (.bin .ge t7 t8)),
 (mI p10 (.mv t9)),
 (.mk (some p11) (some (p10, true)) (.mv t0)),
 (.mk (some p12) (some (p10, true)) (.mv t2)),
 (.mk (some p13) (some (p10, true)) (.bin .le t11 t12)),
 (mI p14 (.pick t10 t13 (.c (.bool false)))),
 (mI p6 (.mv t14))])
 .ret))
 [(.t p6)]
def ls50 : List Nat := []

/- delver/open.Begin -/
def f51 : Fd := .mk [p0]
 (.seq (.reg [(.loc p2 [.nils, .nils]),
 (mI p3 (.mv (.c (.int .i64 (.ofNat 0))))),
 (mI p4 (.mv (.c (.int .i64 (.ofNat 0)))))])
 (.seq (.seq (.reg [(mI p7 (.mv t0)),
 (mI p8 (.len t7)),
 (mI p9 (.bin .gt t8 (.c (.int .i64 (.ofNat 4)))))])
 (.cond t9 .bad .skip))
 (.seq (.reg [(mI p12 (.mv t0)),
 (mI p13 (.call p80 [t12, (.c (.int .i64 (.ofNat 0)))])),
 (mI p11 (.mv t13)),
 (mI p14 (.ex t11 0)),
 (mI p15 (.ex t11 1)),
 (mI p16 (.ex t11 2)),
 (mI p5 (.mv t14)),
 (mI p3 (.mv t15)),
 (mI p6 (.mv t16))])
 (.seq (.seq (.reg [(mI p17 (.mv t6)),
 (mI p18 (.not t17))])
 (.cond t18 .bad .skip))
 (.seq (.reg [(mI p20 (.mv t5)),
 (mI p21 (.bld [.nils, .nils] [(0, 1, t20)])),
 (mI p22 (.mv t3)),
 (.mk none none (.st 2 t2 t21)),
 (mI p3 (.mv t22)),
 (mI p4 (.mv (.c (.int .i64 (.ofNat 0)))))])
 .ret)))))
 [(.cell p2 (some 2)), (.t p3), (.t p4)]
def ls51 : List Nat := [2]

/- (*delver/walk.Walker).starts -/
def f52 : Fd := .mk [p0, p1]
 (.seq (.reg [(.locb p3 t1),
 (.loc p4 [.nils, .nils, (.int .i64 (.ofNat 0)), .nils, .nils, (.int .i64 (.ofNat 0)), .nils, .nils, .nils, (.int .i64 (.ofNat 0)), (.int .i64 (.ofNat 0)), (.int .i64 (.ofNat 0)), (.int .i64 (.ofNat 0)), .nils, (.int .i64 (.ofNat 0))])])
 (.seq (.seq (.reg [(mI p8 (.fa 10 t3)),
 (mI p9 (.ld t8)),
 (mI p10 (.bin .ne t9 (.c (.int .i64 (.ofNat 0))))),
 (mI p11 (.mv t10)),
 (.mk (some p12) (some (p11, false)) (.fa 8 t3)),
 (.mk (some p13) (some (p11, false)) (.ld t12)),
 (.mk (some p14) (some (p11, false)) (.len t13)),
 (.mk (some p15) (some (p11, false)) (.bin .gt t14 (.c (.int .i64 (.ofNat 0))))),
 (mI p16 (.pick t11 (.c (.bool true)) t15)),
 (mI p17 (.mv t16)),
 (.mk (some p18) (some (p17, false)) (.fa 0 t3)),
 (.mk (some p19) (some (p17, false)) (.lda 2 t18)),
 (.mk (some p20) (some (p17, false)) (.call p36 [t19])),
 (.mk (some p21) (some (p17, false)) (.bin .ge t20 (.c (.int .i64 (.ofNat 0))))),
 (mI p22 (.pick t17 (.c (.bool true)) t21))])
 (.cond t22 (.seq (.reg [(mI p23 (.lda 15 t3)),
 (.mk none none (.st 15 t4 t23))])
 .ret) .skip))
 (.seq (.reg [(mI p24 (.fa 0 t3)),
 (mI p25 (.fa 1 t24)),
 (mI p26 (.ld t25)),
 (mI p27 (.call p81 [t26])),
 (mI p28 (.fa 6 t3)),
 (.mk none none (.st 1 t28 t27)),
 (mI p29 (.fa 7 t3)),
 (.mk none none (.st 1 t29 (.c .nils))),
 (mI p30 (.fa 9 t3)),
 (.mk none none (.st 1 t30 (.c (.int .i64 (.ofNat 0)))))])
 (.seq (.seq (.reg [(mI p31 (.mv t0)),
 (mI p32 (.nc t31)),
 (mI p33 (.fa 0 t32)),
 (mI p34 (.ld t33)),
 (mI p35 (.call p82 [t34])),
 (mI p36 (.len t35)),
 (mI p37 (.mv (.c (.int .i64 (.ofNat 0)))))])
 (.block 0 (.loop [p0, p3, p4, p35, p36, p37] (.seq (.reg [(mI p38 (.bin .lt t37 t36))])
 (.seq (.cond t38 .bad (.exit 0))
 .bad)))))
 (.seq (.reg [(mI p50 (.mv t0)),
 (mI p51 (.nc t50)),
 (mI p52 (.fa 9 t51)),
 (mI p53 (.lda 9 t52)),
 (.loc p7 [(.str 0 0), (.bool false), (.bool false), .nils, (.int .i64 (.ofNat 0)), (.str 0 0), (.int .i64 (.ofNat 0)), .nils, .nils]),
 (.mk none none (.st 9 t7 t53))])
 (.seq (.seq (.reg [(mI p54 (.fa 5 t3)),
 (mI p55 (.ld t54)),
 (mI p56 (.bin .eq t55 (.c (.int .i64 (.ofNat 0)))))])
 (.cond t56 .bad .skip))
 (.seq (.drw [(.mk true [p0] [p61] true (mI p61 (.mv t0))),
 (.mk true [p61] [p62] true (mI p62 (.nc t61))),
 (.mk true [p62] [p63] true (mI p63 (.fa 1 t62))),
 (.mk true [p63] [p64] true (mI p64 (.fa 0 t63))),
 (.mk true [p64] [p65] true (mI p65 (.ld t64))),
 (.mk true [p7] [p66] true (mI p66 (.vla 9 t7))),
 (.mk true [p3] [p67] true (mI p67 (.fa 0 t3))),
 (.mk true [p3, p67] [p68] true (mI p68 (.fa 0 t67))),
 (.mk true [p3, p68] [p69] true (mI p69 (.vla 0 t68))),
 (.mk true [p65, p66, p69] [p70] false (mI p70 (.call p84 [t65, t66, t69]))),
 (.mk true [p70] [p71] true (mI p71 (.bsl 1 5 [(.str 0 0), (.str 0 0), (.int .i64 (.ofNat 0)), .nils, .nils] [(0, 5, t70)]))),
 (.mk true [p3] [p72] true (mI p72 (.fa 8 t3))),
 (.mk true [p3, p72, p71] [p3] true (.mk none none (.st 1 t72 t71)))])
 (.seq (.reg [(mI p73 (.lda 15 t3)),
 (.mk none none (.st 15 t4 t73))])
 .ret))))))))
 [(.cell p4 (some 15))]
def ls52 : List Nat := [3, 4, 6, 7]

/- slices.IndexFunc[[]delver/api.Sym,delver/api.Sym] -/
def f53 : Fd := .mk [p0, p1]
 (.seq (.reg [(mI p4 (.mv (.c (.int .i64 (.ofNat 0)))))])
 (.seq (.seq (.reg [(mI p6 (.mv t0)),
 (mI p7 (.len t6)),
 (mI p8 (.mv (.c (.int .i64 (.ofNat 0)))))])
 (.block 0 (.loop [p0, p1, p7, p8] (.seq (.reg [(mI p9 (.bin .lt t8 t7))])
 (.seq (.cond t9 .skip (.exit 0))
 (.seq (.block 1 (.seq (.reg [(mI p10 (.mv t8)),
 (mI p5 (.mv t10))])
 (.seq (.reg [(mI p11 (.mv t1)),
 (mI p12 (.mv t0)),
 (mI p13 (.mv t5)),
 (mI p14 (.ia 4 t12 t13)),
 (mI p15 (.lda 4 t14)),
 (mI p16 (.callv t11 [t15]))])
 (.cond t16 (.seq (.reg [(mI p17 (.mv t5)),
 (mI p4 (.mv t17))])
 .ret) .skip))))
 (.reg [(mI p18 (.bin .add t8 (.c (.int .i64 (.ofNat 1))))),
 (mI p8 (.mv t18))])))))))
 (.seq (.reg [(mI p4 (.mv (.c (.int .i64 (.negSucc 0)))))])
 .ret)))
 [(.t p4)]
def ls53 : List Nat := []

/- delver/open.First$1 -/
def f54 : Fd := .mk [p0]
 (.seq (.reg [(.locb p1 t0),
 (mI p2 (.mv (.c (.bool false))))])
 (.seq (.reg [(mI p3 (.fa 0 t1)),
 (mI p4 (.ld t3)),
 (mI p5 (.bin .eq t4 (.c (.int .i64 (.ofNat 4))))),
 (mI p2 (.mv t5))])
 .ret))
 [(.t p2)]
def ls54 : List Nat := [1]

/- delver/walk.types -/
def f55 : Fd := .mk [p0]
 (.seq (.reg [(.locb p1 t0),
 (mI p2 (.mv (.c .nils)))])
 (.seq (.reg [(mI p3 (.mv (.c .nils)))])
 (.seq (.seq (.reg [(mI p6 (.fa 1 t1)),
 (mI p7 (.ld t6)),
 (mI p8 (.len t7)),
 (mI p9 (.mv (.c (.int .i64 (.ofNat 0)))))])
 (.block 0 (.loop [p3, p7, p8, p9] (.seq (.reg [(mI p10 (.bin .lt t9 t8))])
 (.seq (.cond t10 .bad (.exit 0))
 .bad)))))
 (.seq (.reg [(mI p19 (.mv t3)),
 (mI p2 (.mv t19))])
 .ret))))
 [(.t p2)]
def ls55 : List Nat := [1, 5]

/- (*delver/walk.Walker).sim -/
def f56 : Fd := .mk [p0, p1]
 (.seq (.reg [(.locb p3 t1),
 (mI p4 (.mv (.c .nilp)))])
 (.seq (.reg [(mI p5 (.mv t0)),
 (mI p6 (.lda 15 t3)),
 (mI p7 (.call p85 [t6])),
 (mI p8 (.bld [.nilp, .nils, .nils, (.int .i64 (.ofNat 0)), .nils, .nils, (.int .i64 (.ofNat 0)), .nils, .nils, .nils, (.int .i64 (.ofNat 0)), (.int .i64 (.ofNat 0)), (.int .i64 (.ofNat 0)), (.int .i64 (.ofNat 0)), .nils, (.int .i64 (.ofNat 0))] [(0, 1, t5), (1, 15, t7)])),
 (mI p9 (.bx t8)),
 (mI p4 (.mv t9))])
 .ret))
 [(.t p4)]
def ls56 : List Nat := [3]

/- (*delver/walk.sim).arg -/
def f57 : Fd := .mk [p0, p1, p2]
 (.seq (.reg [(.locb p5 t2),
 (mI p6 (.mv (.c (.bool false))))])
 (.seq (.reg [(mI p10 (.mv t0)),
 (mI p11 (.lda 4 t5)),
 (mI p12 (.call p86 [t10, t11])),
 (mI p9 (.mv t12)),
 (mI p13 (.ex t9 0)),
 (mI p14 (.ex t9 1)),
 (mI p7 (.mv t13)),
 (mI p8 (.mv t14))])
 (.seq (.seq (.reg [(mI p15 (.mv t8))])
 (.cond t15 (.drw [(.mk true [p0] [p17] true (mI p17 (.mv t0))),
 (.mk true [p0] [p18] true (mI p18 (.mv t0))),
 (.mk true [p18] [p19] true (mI p19 (.nc t18))),
 (.mk true [p19] [p20] true (mI p20 (.fa 1 t19))),
 (.mk true [p20] [p21] true (mI p21 (.fa 0 t20))),
 (.mk true [p21] [p22] true (mI p22 (.lda 2 t21))),
 (.mk true [p0] [p23] true (mI p23 (.mv t0))),
 (.mk true [p23] [p24] true (mI p24 (.nc t23))),
 (.mk true [p24] [p25] true (mI p25 (.fa 1 t24))),
 (.mk true [p25] [p26] true (mI p26 (.fa 2 t25))),
 (.mk true [p26] [p27] true (mI p27 (.ld t26))),
 (.mk true [p1] [p28] true (mI p28 (.mv t1))),
 (.mk true [p7] [p29] true (mI p29 (.mv t7))),
 (.mk true [p29] [p30] true (mI p30 (.call p88 [t29]))),
 (.mk true [p22, p27, p28, p30] [p31] false (mI p31 (.call p87 [t22, t27, (.c (.int .i64 (.negSucc 0))), t28, t30]))),
 (.mk true [p31] [p16] true (mI p16 (.mv t31))),
 (.mk true [p16] [p32] true (mI p32 (.ex t16 0))),
 (.mk true [p16] [p33] true (mI p33 (.ex t16 1))),
 (.mk true [p17] [p34] true (mI p34 (.nc t17))),
 (.mk true [p34] [p35] true (mI p35 (.fa 1 t34))),
 (.mk true [p35] [p36] true (mI p36 (.fa 0 t35))),
 (.mk true [p36, p32] [] false (.mk none none (.st 2 t36 t32)))]) .bad))
 (.seq (.reg [(mI p37 (.mv t8)),
 (mI p6 (.mv t37))])
 .ret))))
 [(.t p6)]
def ls57 : List Nat := [5]

/- delver/walk.number -/
def f59 : Fd := .mk [p0]
 (.seq (.reg [(.locb p1 t0),
 (mI p2 (.mv (.c (.int .i64 (.ofNat 0))))),
 (mI p3 (.mv (.c (.bool false))))])
 (.seq (.drw [(.mk true [p1] [p4] true (mI p4 (.fa 1 t1))),
 (.mk true [p1, p4] [p5] true (mI p5 (.fa 0 t4))),
 (.mk true [p1, p5] [p6] true (mI p6 (.vla 0 t5))),
 (.mk true [p1] [p7] true (mI p7 (.fa 0 t1))),
 (.mk true [p1, p7] [p8] true (mI p8 (.vla 0 t7))),
 (.mk true [p8] [p9] true (mI p9 (.bin .eq t8 (.c (.int .i64 (.ofNat 1)))))),
 (.mk true [p9] [p10] true (mI p10 (.mv t9))),
 (.mk true [p1, p10] [p11] true (.mk (some p11) (some (p10, true)) (.fa 1 t1))),
 (.mk true [p1, p11, p10] [p12] true (.mk (some p12) (some (p10, true)) (.fa 1 t11))),
 (.mk true [p1, p12, p10] [p13] true (.mk (some p13) (some (p10, true)) (.vla 0 t12))),
 (.mk true [p13, p10] [p14] true (.mk (some p14) (some (p10, true)) (.len t13))),
 (.mk true [p14, p10] [p15] true (.mk (some p15) (some (p10, true)) (.bin .eq t14 (.c (.int .i64 (.ofNat 0)))))),
 (.mk true [p10, p15] [p16] true (mI p16 (.pick t10 t15 (.c (.bool false))))),
 (.mk true [p6] [p2] true (mI p2 (.mv t6))),
 (.mk true [p16] [p3] true (mI p3 (.mv t16)))])
 .ret))
 [(.t p2), (.t p3)]
def ls59 : List Nat := [1]

/- (*delver/layout.Table).Method -/
def f62 : Fd := .mk [p0, p1, p2]
 (.seq (.reg [(mI p6 (.mv (.c (.str 0 0)))),
 (.loc p7 [(.str 0 0), (.bool false), (.bool false), .nils, (.int .i64 (.ofNat 0)), (.str 0 0), (.int .i64 (.ofNat 0)), .nils, .nils]),
 (mI p8 (.mv (.c (.bool false))))])
 (.seq (.reg [(mI p10 (.mv t0)),
 (mI p11 (.call p29 [t10])),
 (mI p12 (.nc t11)),
 (mI p13 (.fa 9 t12)),
 (mI p14 (.ld t13)),
 (mI p15 (.mv t1)),
 (mI p16 (.mv t2)),
 (mI p17 (.bld [(.str 0 0), (.str 0 0)] [(0, 1, t15), (1, 1, t16)])),
 (mI p18 (.mm (.mlk true [2, 2] [(.str 0 0), (.bool false), (.bool false), .nils, (.int .i64 (.ofNat 0)), (.str 0 0), (.int .i64 (.ofNat 0)), .nils, .nils] true true) [t14, t17])),
 (mI p9 (.mv t18)),
 (mI p19 (.ex t9 0)),
 (mI p20 (.ex t9 1)),
 (.mk none none (.st 9 t7 t19)),
 (mI p8 (.mv t20))])
 (.seq (.seq (.reg [(mI p21 (.mv t8)),
 (mI p22 (.not t21)),
 (mI p23 (.mv t22)),
 (.mk (some p24) (some (p23, false)) (.mv t0)),
 (.mk (some p25) (some (p23, false)) (.nc t24)),
 (.mk (some p26) (some (p23, false)) (.fa 5 t25)),
 (.mk (some p27) (some (p23, false)) (.ld t26)),
 (.mk (some p28) (some (p23, false)) (.bin .ne t27 (.c (.int .i64 (.ofNat 0))))),
 (mI p29 (.pick t23 (.c (.bool true)) t28))])
 (.cond t29 .bad .skip))
 (.seq (.drw [(.mk true [p0] [p31] true (mI p31 (.mv t0))),
 (.mk true [p31] [p32] true (mI p32 (.nc t31))),
 (.mk true [p32] [p33] true (mI p33 (.fa 10 t32))),
 (.mk true [p33] [p34] true (mI p34 (.ld t33))),
 (.mk true [p1] [p35] true (mI p35 (.mv t1))),
 (.mk true [p2] [p36] true (mI p36 (.mv t2))),
 (.mk true [p35, p36] [p37] true (mI p37 (.bld [(.str 0 0), (.str 0 0)] [(0, 1, t35), (1, 1, t36)]))),
 (.mk true [p34, p37] [p38] false (mI p38 (.mm (.mlk true [2, 2] [(.str 0 0)] false false) [t34, t37]))),
 (.mk true [p7] [p39] true (mI p39 (.vla 9 t7))),
 (.mk true [p38] [p6] true (mI p6 (.mv t38))),
 (.mk true [p7, p39] [p7] true (.mk none none (.st 9 t7 t39))),
 (.mk true [] [p8] true (mI p8 (.mv (.c (.bool true)))))])
 .ret))))
 [(.t p6), (.cell p7 (some 9)), (.t p8)]
def ls62 : List Nat := [7]

/- (*delver/walk.Walker).numbers -/
def f63 : Fd := .mk [p0, p1, p2, p3]
 (.seq (.reg [(.locb p6 t2),
 (.locb p7 t3),
 (.loc p8 [(.int .i64 (.ofNat 0)), (.int .i64 (.ofNat 0)), .nils]),
 (mI p9 (.mv (.c (.bool false))))])
 (.seq (.seq (.reg [(mI p17 (.fa 0 t7)),
 (mI p18 (.ld t17))])
 (.block 0 (.seq (.reg [(mI p20 (.bin .eq t18 (.c (.int .i64 (.ofNat 1))))),
 (mI p19 (.mv t20))])
 (.cond t19 (.seq (.reg [(mI p21 (.mv t1)),
 (mI p22 (.fa 1 t7)),
 (mI p23 (.ld t22)),
 (mI p24 (.call p90 [t23])),
 (mI p25 (.call p93 [t21, t24])),
 (mI p26 (.call p92 [t25])),
 (.mk none none (.st 3 t8 t26)),
 (mI p9 (.mv (.c (.bool true))))])
 .ret) (.seq (.reg [(mI p28 (.bin .eq t18 (.c (.int .i64 (.ofNat 13))))),
 (mI p27 (.mv t28))])
 (.cond t27 .bad (.seq (.seq (.reg [(mI p39 (.bin .eq t18 (.c (.int .i64 (.ofNat 8))))),
 (mI p38 (.mv t39))])
 (.cond t38 .skip (.seq (.reg [(mI p40 (.bin .eq t18 (.c (.int .i64 (.ofNat 9))))),
 (mI p38 (.mv t40))])
 (.cond t38 .bad (.seq (.reg [(mI p41 (.bin .eq t18 (.c (.int .i64 (.ofNat 10))))),
 (mI p38 (.mv t41))])
 (.cond t38 .bad (.seq (.reg [(mI p42 (.bin .eq t18 (.c (.int .i64 (.ofNat 11))))),
 (mI p38 (.mv t42))])
 (.cond t38 .bad (.reg [(mI p43 (.bin .eq t18 (.c (.int .i64 (.ofNat 12))))),
 (mI p38 (.mv t43))])))))))))
 (.cond t38 (.seq (.reg [(mI p44 (.mv t1)),
 (mI p45 (.call p94 [t44])),
 (.loc p11 [(.int .i64 (.ofNat 0)), (.int .i64 (.ofNat 0)), .nils, (.int .i64 (.ofNat 0))]),
 (.mk none none (.st 4 t11 t45))])
 (.seq (.reg [(mI p46 (.mv t1)),
 (mI p47 (.call p94 [t46])),
 (.loc p12 [(.int .i64 (.ofNat 0)), (.int .i64 (.ofNat 0)), .nils, (.int .i64 (.ofNat 0))]),
 (.mk none none (.st 4 t12 t47))])
 (.seq (.reg [(mI p49 (.lda 4 t12)),
 (mI p50 (.call p59 [t49])),
 (mI p48 (.mv t50)),
 (mI p51 (.ex t48 0)),
 (mI p52 (.ex t48 1)),
 (mI p13 (.mv t51)),
 (mI p14 (.mv t52))])
 (.seq (.reg [(mI p54 (.lda 4 t11)),
 (mI p55 (.call p59 [t54])),
 (mI p53 (.mv t55)),
 (mI p56 (.ex t53 0)),
 (mI p57 (.ex t53 1)),
 (mI p15 (.mv t56)),
 (mI p16 (.mv t57))])
 (.seq (.seq (.reg [(mI p58 (.mv t14)),
 (mI p59 (.mv t58)),
 (.mk (some p60) (some (p59, true)) (.mv t16)),
 (mI p61 (.pick t59 t60 (.c (.bool false))))])
 (.cond t61 (.seq (.reg [(mI p62 (.mv t1)),
 (mI p63 (.fa 0 t7)),
 (mI p64 (.ld t63)),
 (mI p65 (.mv t13)),
 (mI p66 (.mv t15)),
 (mI p67 (.call p98 [t64, t65, t66])),
 (mI p68 (.ex t67 0)),
 (mI p69 (.ex t67 1)),
 (mI p70 (.call p97 [t62, t68, t69])),
 (.mk none none (.st 3 t8 t70)),
 (mI p9 (.mv (.c (.bool true))))])
 .ret) .bad))
 .bad))))) .skip))))))))
 (.seq (.reg [(mI p77 (.bld [(.int .i64 (.ofNat 0)), (.int .i64 (.ofNat 0)), .nils] [])),
 (.mk none none (.st 3 t8 t77)),
 (mI p9 (.mv (.c (.bool false))))])
 .ret)))
 [(.cell p8 (some 3)), (.t p9)]
def ls63 : List Nat := [6, 7, 8, 10, 11, 12]

/- (*delver/walk.Walker).stack -/
def f64 : Fd := .mk [p0, p1, p2, p3]
 (.seq (.reg [(.locb p6 t2),
 (.locb p7 t3),
 (.loc p8 [(.int .i64 (.ofNat 0)), (.int .i64 (.ofNat 0)), .nils]),
 (mI p9 (.mv (.c (.bool false))))])
 (.seq (.reg [(mI p12 (.mv t1)),
 (mI p13 (.call p100 [t12])),
 (mI p10 (.mv t13))])
 (.seq (.reg [(mI p14 (.mv t10)),
 (mI p15 (.nc t14)),
 (mI p16 (.fa 4 t15)),
 (mI p17 (.ld t16)),
 (mI p18 (.len t17)),
 (mI p11 (.mv t18))])
 (.seq (.seq (.reg [(mI p19 (.fa 0 t7)),
 (mI p20 (.ld t19))])
 (.block 0 (.seq (.reg [(mI p23 (.bin .eq t20 (.c (.int .i64 (.ofNat 0))))),
 (mI p22 (.mv t23))])
 (.cond t22 .bad (.seq (.reg [(mI p25 (.bin .eq t20 (.c (.int .i64 (.ofNat 2))))),
 (mI p24 (.mv t25))])
 (.cond t24 .bad (.seq (.reg [(mI p30 (.bin .eq t20 (.c (.int .i64 (.ofNat 3))))),
 (mI p29 (.mv t30))])
 (.cond t29 .bad (.seq (.reg [(mI p42 (.bin .eq t20 (.c (.int .i64 (.ofNat 4))))),
 (mI p41 (.mv t42))])
 (.cond t41 .bad (.seq (.reg [(mI p53 (.bin .eq t20 (.c (.int .i64 (.ofNat 5))))),
 (mI p52 (.mv t53))])
 (.cond t52 .bad (.seq (.reg [(mI p57 (.bin .eq t20 (.c (.int .i64 (.ofNat 6))))),
 (mI p56 (.mv t57))])
 (.cond t56 .bad (.seq (.reg [(mI p69 (.bin .eq t20 (.c (.int .i64 (.ofNat 7))))),
 (mI p68 (.mv t69))])
 (.cond t68 .bad (.seq (.reg [(mI p21 (.bld [(.int .i64 (.ofNat 0)), (.int .i64 (.ofNat 0)), .nils] [])),
 (.mk none none (.st 3 t8 t21)),
 (mI p9 (.mv (.c (.bool false))))])
 .ret)))))))))))))))))
 .bad))))
 [(.cell p8 (some 3)), (.t p9)]
def ls64 : List Nat := [6, 7, 8]

/- (*delver/walk.Walker).jumps -/
def f65 : Fd := .mk [p0, p1, p2, p3]
 (.seq (.reg [(.locb p6 t2),
 (.locb p7 t3),
 (.loc p8 [(.int .i64 (.ofNat 0)), (.int .i64 (.ofNat 0)), .nils]),
 (mI p9 (.mv (.c (.bool false))))])
 (.seq (.seq (.reg [(mI p16 (.fa 0 t7)),
 (mI p17 (.ld t16))])
 (.block 0 (.seq (.reg [(mI p19 (.bin .eq t17 (.c (.int .i64 (.ofNat 14))))),
 (mI p18 (.mv t19))])
 (.cond t18 .bad (.seq (.seq (.reg [(mI p26 (.bin .eq t17 (.c (.int .i64 (.ofNat 15))))),
 (mI p25 (.mv t26))])
 (.cond t25 .bad (.seq (.reg [(mI p27 (.bin .eq t17 (.c (.int .i64 (.ofNat 16))))),
 (mI p25 (.mv t27))])
 (.cond t25 .bad (.seq (.reg [(mI p28 (.bin .eq t17 (.c (.int .i64 (.ofNat 17))))),
 (mI p25 (.mv t28))])
 (.cond t25 .bad (.reg [(mI p29 (.bin .eq t17 (.c (.int .i64 (.ofNat 18))))),
 (mI p25 (.mv t29))])))))))
 (.cond t25 .bad (.seq (.seq (.reg [(mI p41 (.bin .eq t17 (.c (.int .i64 (.ofNat 19))))),
 (mI p40 (.mv t41))])
 (.cond t40 .bad (.seq (.reg [(mI p42 (.bin .eq t17 (.c (.int .i64 (.ofNat 20))))),
 (mI p40 (.mv t42))])
 (.cond t40 .bad (.seq (.reg [(mI p43 (.bin .eq t17 (.c (.int .i64 (.ofNat 21))))),
 (mI p40 (.mv t43))])
 (.cond t40 .bad (.reg [(mI p44 (.bin .eq t17 (.c (.int .i64 (.ofNat 22))))),
 (mI p40 (.mv t44))])))))))
 (.cond t40 .bad (.seq (.seq (.reg [(mI p67 (.bin .eq t17 (.c (.int .i64 (.ofNat 23))))),
 (mI p66 (.mv t67))])
 (.cond t66 .bad (.reg [(mI p68 (.bin .eq t17 (.c (.int .i64 (.ofNat 24))))),
 (mI p66 (.mv t68))])))
 (.cond t66 .bad (.seq (.seq (.reg [(mI p83 (.bin .eq t17 (.c (.int .i64 (.ofNat 25))))),
 (mI p82 (.mv t83))])
 (.cond t82 .bad (.reg [(mI p84 (.bin .eq t17 (.c (.int .i64 (.ofNat 26))))),
 (mI p82 (.mv t84))])))
 (.cond t82 .bad .skip))))))))))))
 (.seq (.reg [(mI p110 (.bld [(.int .i64 (.ofNat 0)), (.int .i64 (.ofNat 0)), .nils] [])),
 (.mk none none (.st 3 t8 t110)),
 (mI p9 (.mv (.c (.bool false))))])
 .ret)))
 [(.cell p8 (some 3)), (.t p9)]
def ls65 : List Nat := [6, 7, 8, 10, 11, 12, 14, 15]

/- (*delver/walk.Walker).objects -/
def f66 : Fd := .mk [p0, p1, p2, p3]
 (.seq (.reg [(.locb p6 t2),
 (.locb p7 t3),
 (.loc p8 [(.int .i64 (.ofNat 0)), (.int .i64 (.ofNat 0)), .nils]),
 (mI p9 (.mv (.c (.bool false))))])
 (.seq (.seq (.reg [(mI p15 (.fa 0 t7)),
 (mI p16 (.ld t15))])
 (.block 0 (.seq (.reg [(mI p18 (.bin .eq t16 (.c (.int .i64 (.ofNat 27))))),
 (mI p17 (.mv t18))])
 (.cond t17 .bad (.seq (.reg [(mI p27 (.bin .eq t16 (.c (.int .i64 (.ofNat 30))))),
 (mI p26 (.mv t27))])
 (.cond t26 .bad (.seq (.reg [(mI p48 (.bin .eq t16 (.c (.int .i64 (.ofNat 31))))),
 (mI p47 (.mv t48))])
 (.cond t47 .bad (.seq (.reg [(mI p70 (.bin .eq t16 (.c (.int .i64 (.ofNat 28))))),
 (mI p69 (.mv t70))])
 (.cond t69 .bad (.seq (.reg [(mI p77 (.bin .eq t16 (.c (.int .i64 (.ofNat 29))))),
 (mI p76 (.mv t77))])
 (.cond t76 .bad (.seq (.reg [(mI p113 (.bin .eq t16 (.c (.int .i64 (.ofNat 37))))),
 (mI p112 (.mv t113))])
 (.cond t112 .bad (.seq (.reg [(mI p144 (.bin .eq t16 (.c (.int .i64 (.ofNat 38))))),
 (mI p143 (.mv t144))])
 (.cond t143 .bad .skip))))))))))))))))
 (.seq (.reg [(mI p177 (.bld [(.int .i64 (.ofNat 0)), (.int .i64 (.ofNat 0)), .nils] [])),
 (.mk none none (.st 3 t8 t177)),
 (mI p9 (.mv (.c (.bool false))))])
 .ret)))
 [(.cell p8 (some 3)), (.t p9)]
def ls66 : List Nat := [6, 7, 8, 10, 11, 12, 14]

/- (*delver/walk.Walker).rows -/
def f67 : Fd := .mk [p0, p1, p2, p3]
 (.seq (.reg [(.locb p6 t2),
 (.locb p7 t3),
 (.loc p8 [(.int .i64 (.ofNat 0)), (.int .i64 (.ofNat 0)), .nils]),
 (mI p9 (.mv (.c (.bool false))))])
 (.seq (.seq (.reg [(mI p23 (.fa 0 t7)),
 (mI p24 (.ld t23))])
 (.block 0 (.seq (.reg [(mI p26 (.bin .eq t24 (.c (.int .i64 (.ofNat 32))))),
 (mI p25 (.mv t26))])
 (.cond t25 .bad (.seq (.reg [(mI p33 (.bin .eq t24 (.c (.int .i64 (.ofNat 33))))),
 (mI p32 (.mv t33))])
 (.cond t32 .bad (.seq (.reg [(mI p42 (.bin .eq t24 (.c (.int .i64 (.ofNat 34))))),
 (mI p41 (.mv t42))])
 (.cond t41 .bad (.seq (.reg [(mI p67 (.bin .eq t24 (.c (.int .i64 (.ofNat 35))))),
 (mI p66 (.mv t67))])
 (.cond t66 .bad (.seq (.reg [(mI p124 (.bin .eq t24 (.c (.int .i64 (.ofNat 36))))),
 (mI p123 (.mv t124))])
 (.cond t123 .bad .skip))))))))))))
 (.seq (.reg [(mI p159 (.bld [(.int .i64 (.ofNat 0)), (.int .i64 (.ofNat 0)), .nils] [])),
 (.mk none none (.st 3 t8 t159)),
 (mI p9 (.mv (.c (.bool false))))])
 .ret)))
 [(.cell p8 (some 3)), (.t p9)]
def ls67 : List Nat := [6, 7, 8, 10, 11, 12, 14, 16, 17, 18, 19, 21]

/- (*delver/walk.Walker).ways -/
def f68 : Fd := .mk [p0, p1, p2]
 (.seq (.reg [(.locb p5 t2),
 (.loc p6 [(.int .i64 (.ofNat 0)), (.int .i64 (.ofNat 0)), .nils])])
 (.seq (.seq (.reg [(mI p17 (.fa 0 t5)),
 (mI p18 (.ld t17))])
 (.block 0 (.seq (.reg [(mI p20 (.bin .eq t18 (.c (.int .i64 (.ofNat 39))))),
 (mI p19 (.mv t20))])
 (.cond t19 .bad (.seq (.reg [(mI p77 (.bin .eq t18 (.c (.int .i64 (.ofNat 40))))),
 (mI p76 (.mv t77))])
 (.cond t76 .bad (.seq (.reg [(mI p101 (.bin .eq t18 (.c (.int .i64 (.ofNat 41))))),
 (mI p100 (.mv t101))])
 (.cond t100 (.seq (.reg [(mI p102 (.mv t1)),
 (mI p103 (.mv t1)),
 (mI p104 (.call p94 [t103])),
 (mI p105 (.call p120 [t102, t104, (.c (.bool true))])),
 (.mk none none (.st 3 t6 t105))])
 .ret) .bad))))))))
 .bad))
 [(.cell p6 (some 3))]
def ls68 : List Nat := [5, 6, 7, 11, 14, 16]

/- delver/hier.Of -/
def f72 : Fd := .mk [p0]
 (.seq (.reg [(.locb p1 t0),
 (mI p2 (.mv (.c .nilp)))])
 (.seq (.reg [(mI p9 (.lda 1 t1)),
 (mI p10 (.call p129 [t9])),
 (mI p11 (.mm .mmk [])),
 (mI p12 (.mm .mmk [])),
 (mI p13 (.bld [(.int .i64 (.ofNat 0)), .nils, (.int .i64 (.ofNat 0)), .nilm, .nilm] [(2, 1, t10), (3, 1, t11), (4, 1, t12)])),
 (mI p14 (.bx t13)),
 (mI p3 (.mv t14))])
 (.seq (.seq (.reg [(mI p15 (.mv t3)),
 (mI p16 (.nc t15)),
 (mI p17 (.fa 2 t16)),
 (mI p18 (.ld t17)),
 (mI p19 (.bin .ne t18 (.c (.int .i64 (.ofNat 0)))))])
 (.cond t19 .bad .skip))
 (.seq (.drw [(.mk true [] [p21] false (mI p21 (.call p130 []))),
 (.mk true [p1] [p22] true (mI p22 (.fa 0 t1))),
 (.mk true [p1, p22] [p23] true (mI p23 (.vla 0 t22))),
 (.mk true [p21, p23] [p24] false (mI p24 (.app 6 112 t21 t23))),
 (.mk true [p24] [p4] true (mI p4 (.mv t24)))])
 (.seq (.reg [(mI p25 (.mv t3)),
 (mI p26 (.mv t4)),
 (mI p27 (.len t26)),
 (mI p28 (.fa 0 t1)),
 (mI p29 (.ld t28)),
 (mI p30 (.len t29)),
 (mI p31 (.bin .sub t27 t30)),
 (mI p32 (.nc t25)),
 (mI p33 (.fa 0 t32)),
 (.mk none none (.st 1 t33 t31))])
 (.seq (.seq (.reg [(mI p34 (.mv t4)),
 (mI p35 (.len t34)),
 (mI p36 (.mv (.c (.int .i64 (.ofNat 0)))))])
 (.block 0 (.loop [p3, p4, p34, p35, p36] (.seq (.reg [(mI p37 (.bin .lt t36 t35))])
 (.seq (.cond t37 .skip (.exit 0))
 (.seq (.block 1 (.seq (.reg [(mI p38 (.ia 6 t34 t36)),
 (mI p39 (.lda 6 t38)),
 (.loc p6 [(.str 0 0), (.bool false), (.str 0 0), .nils, .nils, .nils]),
 (.mk none none (.st 6 t6 t39))])
 (.seq (.drw [(.mk true [p3] [p40] true (mI p40 (.mv t3))),
 (.mk true [p3] [p41] true (mI p41 (.mv t3))),
 (.mk true [p41] [p42] true (mI p42 (.nc t41))),
 (.mk true [p42] [p43] true (mI p43 (.fa 1 t42))),
 (.mk true [p43] [p44] true (mI p44 (.ld t43))),
 (.mk true [p6] [p45] true (mI p45 (.fa 0 t6))),
 (.mk true [p6, p45] [p46] true (mI p46 (.vla 0 t45))),
 (.mk true [p46] [p47] true (mI p47 (.bsl 1 1 [(.str 0 0)] [(0, 1, t46)]))),
 (.mk true [p44, p47] [p48] false (mI p48 (.app 1 16 t44 t47))),
 (.mk true [p40] [p49] true (mI p49 (.nc t40))),
 (.mk true [p49] [p50] true (mI p50 (.fa 1 t49))),
 (.mk true [p50, p48] [] false (.mk none none (.st 1 t50 t48)))])
 (.drw [(.mk true [p3] [p51] true (mI p51 (.mv t3))),
 (.mk true [p51] [p52] true (mI p52 (.nc t51))),
 (.mk true [p52] [p53] true (mI p53 (.fa 3 t52))),
 (.mk true [p53] [p54] true (mI p54 (.ld t53))),
 (.mk true [p6] [p55] true (mI p55 (.fa 0 t6))),
 (.mk true [p6, p55] [p56] true (mI p56 (.vla 0 t55))),
 (.mk true [p6] [p57] true (mI p57 (.vla 6 t6))),
 (.mk true [p54, p56, p57] [] false (.mk none none (.mm (.mup false [2]) [t54, t56, t57])))]))))
 (.reg [(mI p58 (.bin .add t36 (.c (.int .i64 (.ofNat 1))))),
 (mI p36 (.mv t58))])))))))
 (.seq (.block 2 (.seq (.reg [(mI p60 (.mv t3)),
 (mI p61 (.nc t60)),
 (mI p62 (.fa 3 t61)),
 (mI p63 (.ld t62)),
 (mI p64 (.mm .mln [t63])),
 (mI p65 (.mv t4)),
 (mI p66 (.len t65)),
 (mI p67 (.bin .lt t64 t66)),
 (mI p59 (.mv t67))])
 (.cond t59 .bad (.seq (.reg [(mI p72 (.mv t4)),
 (mI p73 (.mv t3)),
 (mI p74 (.mbf p132 [t73])),
 (mI p75 (.call p131 [t72, t74])),
 (mI p71 (.mv t75))])
 (.cond t71 .bad (.seq (.reg [(mI p80 (.mv t3)),
 (mI p81 (.nc t80)),
 (mI p82 (.fa 1 t81)),
 (mI p83 (.ld t82)),
 (mI p84 (.mv t3)),
 (mI p85 (.mbf p134 [t84])),
 (mI p86 (.call p133 [t83, t85])),
 (mI p79 (.mv t86))])
 (.cond t79 .bad .skip)))))))
 (.seq (.seq (.reg [(mI p90 (.mv t3)),
 (mI p91 (.nc t90)),
 (mI p92 (.fa 2 t91)),
 (mI p93 (.ld t92)),
 (mI p94 (.bin .ne t93 (.c (.int .i64 (.ofNat 0)))))])
 (.cond t94 .bad .skip))
 (.seq (.seq (.reg [(mI p96 (.mv t3)),
 (mI p97 (.nc t96)),
 (mI p98 (.fa 1 t97)),
 (mI p99 (.ld t98)),
 (mI p100 (.len t99)),
 (mI p101 (.mv (.c (.int .i64 (.ofNat 0)))))])
 (.block 3 (.loop [p3, p99, p100, p101] (.seq (.reg [(mI p102 (.bin .lt t101 t100))])
 (.seq (.cond t102 .skip (.exit 3))
 (.seq (.block 4 (.seq (.reg [(mI p103 (.ia 1 t99 t101)),
 (mI p104 (.ld t103)),
 (mI p8 (.mv t104))])
 (.seq (.reg [(mI p105 (.mv t3)),
 (mI p106 (.nc t105)),
 (mI p107 (.fa 4 t106)),
 (mI p108 (.ld t107)),
 (mI p109 (.mv t8)),
 (mI p110 (.mm .mmk [])),
 (.mk none none (.mm (.mup false [2]) [t110, (.c (.str 6 127970252055119)), (.c (.bool true))])),
 (mI p111 (.mv t110)),
 (.mk none none (.mm (.mup false [2]) [t108, t109, t111]))])
 (.reg [(mI p112 (.mv t3)),
 (mI p113 (.mv t8)),
 (mI p114 (.mv t3)),
 (mI p115 (.nc t114)),
 (mI p116 (.fa 4 t115)),
 (mI p117 (.ld t116)),
 (mI p118 (.mv t8)),
 (mI p119 (.mm (.mlk false [2] [.nilm] false false) [t117, t118])),
 (mI p120 (.call p135 [t112, t113, t119]))]))))
 (.reg [(mI p121 (.bin .add t101 (.c (.int .i64 (.ofNat 1))))),
 (mI p101 (.mv t121))])))))))
 (.seq (.reg [(mI p122 (.mv t3)),
 (mI p2 (.mv t122))])
 .ret))))))))))
 [(.t p2)]
def ls72 : List Nat := [1, 6]

/- (*delver/layout.Table).class -/
def f73 : Fd := .mk [p0, p1]
 (.seq (.reg [(.locb p2 t0),
 (.locb p3 t1)])
 (.seq (.reg [(mI p4 (.mv (.c .nils)))])
 (.seq (.seq (.reg [(mI p15 (.ld t3)),
 (mI p5 (.mv t15)),
 (mI p6 (.mv (.c (.bool true))))])
 (.block 0 (.loop [p2, p3, p4, p5, p6] (.seq (.seq (.reg [(mI p16 (.mv t6))])
 (.cond t16 .skip (.exit 0)))
 (.seq (.block 1 (.reg [(mI p26 (.mv t4)),
 (mI p27 (.mv t5)),
 (mI p28 (.bsl 1 1 [(.str 0 0)] [(0, 1, t27)])),
 (mI p29 (.app 1 16 t26 t28)),
 (mI p4 (.mv t29))]))
 (.reg [(mI p18 (.ld t2)),
 (mI p19 (.nc t18)),
 (mI p20 (.fa 4 t19)),
 (mI p21 (.ld t20)),
 (mI p22 (.mv t5)),
 (mI p23 (.call p136 [t21, t22])),
 (mI p17 (.mv t23)),
 (mI p24 (.ex t17 0)),
 (mI p25 (.ex t17 1)),
 (mI p5 (.mv t24)),
 (mI p6 (.mv t25))]))))))
 (.seq (.drw [(.mk true [p2] [p30] true (mI p30 (.vla 0 t2))),
 (.mk true [p30] [p31] true (mI p31 (.nc t30))),
 (.mk true [p31] [p32] true (mI p32 (.fa 6 t31))),
 (.mk true [p32] [p33] true (mI p33 (.ld t32))),
 (.mk true [p3] [p34] true (mI p34 (.vla 0 t3))),
 (.mk true [p4] [p35] true (mI p35 (.mv t4))),
 (.mk true [p33, p34, p35] [] false (.mk none none (.mm (.mup false [2]) [t33, t34, t35])))])
 (.seq (.reg [(mI p36 (.mv t4)),
 (mI p37 (.call p137 [t36]))])
 (.block 2 (.rng [p2, p3, p37] t37 p38 p39 (.reg [(.loc p8 [(.str 0 0)]),
 (.mk none none (.st 1 t8 t39))])
 (.block 3 (.seq (.drw [(.mk true [p2] [p41] true (mI p41 (.vla 0 t2))),
 (.mk true [p41] [p42] true (mI p42 (.nc t41))),
 (.mk true [p42] [p43] true (mI p43 (.fa 4 t42))),
 (.mk true [p43] [p44] true (mI p44 (.ld t43))),
 (.mk true [p8] [p45] true (mI p45 (.vla 0 t8))),
 (.mk true [p44, p45] [p46] true (mI p46 (.call p45 [t44, t45]))),
 (.mk true [p46] [p40] true (mI p40 (.mv t46))),
 (.mk true [p40] [p47] true (mI p47 (.ex t40 0))),
 (.mk true [p40] [p48] true (mI p48 (.ex t40 1))),
 (.mk true [p9] [p9] true (.loc p9 [(.str 0 0), (.bool false), (.str 0 0), .nils, .nils, .nils])),
 (.mk true [p9, p47] [p9] true (.mk none none (.st 6 t9 t47))),
 (.mk true [p48] [p10] true (mI p10 (.mv t48)))])
 (.seq (.seq (.reg [(mI p49 (.fa 4 t9)),
 (mI p50 (.ld t49)),
 (mI p51 (.len t50)),
 (mI p52 (.mv (.c (.int .i64 (.ofNat 0)))))])
 (.block 4 (.loop [p2, p3, p8, p9, p37, p50, p51, p52] (.seq (.reg [(mI p53 (.bin .lt t52 t51))])
 (.seq (.cond t53 .skip (.exit 4))
 (.seq (.block 5 (.seq (.reg [(mI p54 (.ia 4 t50 t52)),
 (mI p55 (.lda 4 t54)),
 (.loc p12 [(.str 0 0), (.int .i64 (.ofNat 0)), (.str 0 0), (.bool false)]),
 (.mk none none (.st 4 t12 t55))])
 (.seq (.reg [(mI p56 (.fa 3 t12)),
 (mI p57 (.ld t56)),
 (mI p58 (.not t57))])
 (.cond t58 (.drw [(.mk true [p2] [p59] true (mI p59 (.vla 0 t2))),
 (.mk true [p59] [p60] true (mI p60 (.nc t59))),
 (.mk true [p60] [p61] true (mI p61 (.fa 7 t60))),
 (.mk true [p61] [p62] true (mI p62 (.ld t61))),
 (.mk true [p3] [p63] true (mI p63 (.vla 0 t3))),
 (.mk true [p2] [p64] true (mI p64 (.vla 0 t2))),
 (.mk true [p64] [p65] true (mI p65 (.nc t64))),
 (.mk true [p65] [p66] true (mI p66 (.fa 7 t65))),
 (.mk true [p66] [p67] true (mI p67 (.ld t66))),
 (.mk true [p3] [p68] true (mI p68 (.vla 0 t3))),
 (.mk true [p67, p68] [p69] true (mI p69 (.mm (.mlk false [2] [.nils] false false) [t67, t68]))),
 (.mk true [p8] [p70] true (mI p70 (.vla 0 t8))),
 (.mk true [p12] [p71] true (mI p71 (.fa 0 t12))),
 (.mk true [p12, p71] [p72] true (mI p72 (.vla 0 t71))),
 (.mk true [p12] [p73] true (mI p73 (.fa 1 t12))),
 (.mk true [p12, p73] [p74] true (mI p74 (.vla 2 t73))),
 (.mk true [p70, p72, p74] [p75] true (mI p75 (.bld [(.str 0 0), (.str 0 0), (.int .i64 (.ofNat 0)), (.str 0 0)] [(0, 1, t70), (1, 1, t72), (2, 2, t74)]))),
 (.mk true [p75] [p76] true (mI p76 (.bsl 1 4 [(.str 0 0), (.str 0 0), (.int .i64 (.ofNat 0)), (.str 0 0)] [(0, 4, t75)]))),
 (.mk true [p69, p76] [p77] true (mI p77 (.app 4 56 t69 t76))),
 (.mk true [p62, p63, p77] [] false (.mk none none (.mm (.mup false [2]) [t62, t63, t77])))]) .bad))))
 (.reg [(mI p78 (.bin .add t52 (.c (.int .i64 (.ofNat 1))))),
 (mI p52 (.mv t78))])))))))
 (.seq (.reg [(mI p79 (.fa 5 t9)),
 (mI p80 (.ld t79)),
 (mI p81 (.call p138 [t80]))])
 (.block 6 (.rng [p2, p3, p8, p37, p81] t81 p82 p83 (.reg [(.loc p14 [(.str 0 0), (.bool false), (.bool false), .nils, (.int .i64 (.ofNat 0)), (.str 0 0), (.int .i64 (.ofNat 0)), .nils, .nils]),
 (.mk none none (.st 9 t14 t83))])
 (.block 7 (.drw [(.mk true [p2] [p84] true (mI p84 (.vla 0 t2))),
 (.mk true [p84] [p85] true (mI p85 (.nc t84))),
 (.mk true [p85] [p86] true (mI p86 (.fa 9 t85))),
 (.mk true [p86] [p87] true (mI p87 (.ld t86))),
 (.mk true [p3] [p88] true (mI p88 (.vla 0 t3))),
 (.mk true [p14] [p89] true (mI p89 (.fa 0 t14))),
 (.mk true [p14, p89] [p90] true (mI p90 (.vla 0 t89))),
 (.mk true [p88, p90] [p91] true (mI p91 (.bld [(.str 0 0), (.str 0 0)] [(0, 1, t88), (1, 1, t90)]))),
 (.mk true [p2] [p92] true (mI p92 (.vla 0 t2))),
 (.mk true [p92] [p93] true (mI p93 (.nc t92))),
 (.mk true [p93] [p94] true (mI p94 (.fa 10 t93))),
 (.mk true [p94] [p95] true (mI p95 (.ld t94))),
 (.mk true [p3] [p96] true (mI p96 (.vla 0 t3))),
 (.mk true [p14] [p97] true (mI p97 (.fa 0 t14))),
 (.mk true [p14, p97] [p98] true (mI p98 (.vla 0 t97))),
 (.mk true [p96, p98] [p99] true (mI p99 (.bld [(.str 0 0), (.str 0 0)] [(0, 1, t96), (1, 1, t98)]))),
 (.mk true [p14] [p100] true (mI p100 (.vla 9 t14))),
 (.mk true [p8] [p101] true (mI p101 (.vla 0 t8))),
 (.mk true [p87, p91] [p102] false (mI p102 (.mm (.men true [2, 2] [(.str 0 0), (.bool false), (.bool false), .nils, (.int .i64 (.ofNat 0)), (.str 0 0), (.int .i64 (.ofNat 0)), .nils, .nils] true) [t87, t91]))),
 (.mk true [p102] [p103] true (mI p103 (.ex t102 1))),
 (.mk true [p87, p103, p100] [] false (.mk none none (.mm .mes [t87, t103, t100]))),
 (.mk true [p95, p99] [p104] false (mI p104 (.mm (.men true [2, 2] [(.str 0 0)] false) [t95, t99]))),
 (.mk true [p104] [p105] true (mI p105 (.ex t104 1))),
 (.mk true [p95, p105, p101] [] false (.mk none none (.mm .mes [t95, t105, t101])))])))))))))))))))
 []
def ls73 : List Nat := [2, 3, 8, 9, 12, 14]

/- (*delver/layout.Table).alone -/
def f74 : Fd := .mk [p0, p1]
 (.seq (.reg [(.locb p3 t1),
 (mI p4 (.mv (.c (.int .i64 (.ofNat 0)))))])
 (.seq (.reg [(mI p5 (.mv (.c .nils))),
 (mI p6 (.mv (.c .nils)))])
 (.seq (.reg [(mI p7 (.mv (.c .nils))),
 (mI p8 (.mv (.c .nils)))])
 (.seq (.seq (.reg [(mI p13 (.fa 4 t3)),
 (mI p14 (.ld t13)),
 (mI p15 (.len t14)),
 (mI p16 (.mv (.c (.int .i64 (.ofNat 0)))))])
 (.block 0 (.loop [p0, p3, p5, p6, p7, p8, p14, p15, p16] (.seq (.reg [(mI p17 (.bin .lt t16 t15))])
 (.seq (.cond t17 .skip (.exit 0))
 (.seq (.block 1 (.seq (.reg [(mI p18 (.ia 4 t14 t16)),
 (mI p19 (.lda 4 t18)),
 (.loc p10 [(.str 0 0), (.int .i64 (.ofNat 0)), (.str 0 0), (.bool false)]),
 (.mk none none (.st 4 t10 t19))])
 (.drw [(.mk true [p5] [p20] true (mI p20 (.mv t5))),
 (.mk true [p10] [p21] true (mI p21 (.fa 0 t10))),
 (.mk true [p10, p21] [p22] true (mI p22 (.vla 0 t21))),
 (.mk true [p22] [p23] true (mI p23 (.bsl 1 1 [(.str 0 0)] [(0, 1, t22)]))),
 (.mk true [p20, p23] [p24] false (mI p24 (.app 1 16 t20 t23))),
 (.mk true [p8] [p25] true (mI p25 (.mv t8))),
 (.mk true [p10] [p26] true (mI p26 (.fa 1 t10))),
 (.mk true [p10, p26] [p27] true (mI p27 (.vla 2 t26))),
 (.mk true [p27] [p28] true (mI p28 (.bsl 1 2 [(.int .i64 (.ofNat 0)), (.str 0 0)] [(0, 2, t27)]))),
 (.mk true [p25, p28] [p29] false (mI p29 (.app 2 24 t25 t28))),
 (.mk true [p24] [p5] true (mI p5 (.mv t24))),
 (.mk true [p29] [p8] true (mI p8 (.mv t29)))])))
 (.reg [(mI p30 (.bin .add t16 (.c (.int .i64 (.ofNat 1))))),
 (mI p16 (.mv t30))])))))))
 (.seq (.seq (.reg [(mI p31 (.fa 5 t3)),
 (mI p32 (.ld t31)),
 (mI p33 (.len t32)),
 (mI p34 (.mv (.c (.int .i64 (.ofNat 0)))))])
 (.block 2 (.loop [p0, p3, p5, p6, p7, p8, p32, p33, p34] (.seq (.reg [(mI p35 (.bin .lt t34 t33))])
 (.seq (.cond t35 .skip (.exit 2))
 (.seq (.block 3 (.seq (.reg [(mI p36 (.ia 9 t32 t34)),
 (mI p37 (.lda 9 t36)),
 (.loc p12 [(.str 0 0), (.bool false), (.bool false), .nils, (.int .i64 (.ofNat 0)), (.str 0 0), (.int .i64 (.ofNat 0)), .nils, .nils]),
 (.mk none none (.st 9 t12 t37))])
 (.seq (.seq (.reg [(mI p38 (.fa 2 t12)),
 (mI p39 (.ld t38)),
 (mI p40 (.fa 1 t3)),
 (mI p41 (.ld t40)),
 (mI p42 (.beq true t39 t41)),
 (mI p43 (.mv t42)),
 (.mk (some p44) (some (p43, false)) (.fa 1 t3)),
 (.mk (some p45) (some (p43, false)) (.ld t44)),
 (.mk (some p46) (some (p43, false)) (.mv t45)),
 (.mk (some p47) (some (p46, true)) (.fa 1 t12)),
 (.mk (some p48) (some (p46, true)) (.ld t47)),
 (.mk (some p49) (some (p43, false)) (.pick t46 t48 (.c (.bool false)))),
 (mI p50 (.pick t43 (.c (.bool true)) t49))])
 (.cond t50 .bad .skip))
 (.drw [(.mk true [p6] [p51] true (mI p51 (.mv t6))),
 (.mk true [p12] [p52] true (mI p52 (.fa 0 t12))),
 (.mk true [p12, p52] [p53] true (mI p53 (.vla 0 t52))),
 (.mk true [p53] [p54] true (mI p54 (.bsl 1 1 [(.str 0 0)] [(0, 1, t53)]))),
 (.mk true [p51, p54] [p55] false (mI p55 (.app 1 16 t51 t54))),
 (.mk true [p8] [p56] true (mI p56 (.mv t8))),
 (.mk true [p12] [p57] true (mI p57 (.fa 3 t12))),
 (.mk true [p12, p57] [p58] true (mI p58 (.vla 0 t57))),
 (.mk true [p56, p58] [p59] false (mI p59 (.app 2 24 t56 t58))),
 (.mk true [p7] [p60] true (mI p60 (.mv t7))),
 (.mk true [p12] [p61] true (mI p61 (.fa 4 t12))),
 (.mk true [p12, p61] [p62] true (mI p62 (.vla 2 t61))),
 (.mk true [p62] [p63] true (mI p63 (.bsl 1 2 [(.int .i64 (.ofNat 0)), (.str 0 0)] [(0, 2, t62)]))),
 (.mk true [p60, p63] [p64] false (mI p64 (.app 2 24 t60 t63))),
 (.mk true [p55] [p6] true (mI p6 (.mv t55))),
 (.mk true [p59] [p8] true (mI p8 (.mv t59))),
 (.mk true [p64] [p7] true (mI p7 (.mv t64)))]))))
 (.reg [(mI p65 (.bin .add t34 (.c (.int .i64 (.ofNat 1))))),
 (mI p34 (.mv t65))])))))))
 (.seq (.block 4 (.seq (.seq (.reg [(mI p67 (.fa 1 t3)),
 (mI p68 (.ld t67)),
 (mI p69 (.mv t68)),
 (.mk (some p70) (some (p69, true)) (.fa 4 t3)),
 (.mk (some p71) (some (p69, true)) (.ld t70)),
 (.mk (some p72) (some (p69, true)) (.len t71)),
 (.mk (some p73) (some (p69, true)) (.bin .gt t72 (.c (.int .i64 (.ofNat 0))))),
 (mI p74 (.pick t69 t73 (.c (.bool false)))),
 (mI p66 (.mv t74))])
 (.cond t66 .bad (.reg [(mI p75 (.mv t8)),
 (mI p76 (.call p139 [t75, (.c (.fn p140 []))])),
 (mI p66 (.mv t76))])))
 (.cond t66 .bad (.seq (.reg [(mI p78 (.mv t5)),
 (mI p79 (.call p141 [t78])),
 (mI p80 (.mv t79)),
 (.mk (some p81) (some (p80, false)) (.mv t6)),
 (.mk (some p82) (some (p80, false)) (.call p141 [t81])),
 (mI p83 (.pick t80 (.c (.bool true)) t82)),
 (mI p77 (.mv t83))])
 (.cond t77 .bad (.seq (.reg [(mI p85 (.mv t8)),
 (mI p86 (.mv t7)),
 (mI p87 (.app 2 24 t85 t86)),
 (mI p88 (.mv t0)),
 (mI p89 (.mbf p142 [t88])),
 (mI p90 (.call p139 [t87, t89])),
 (mI p84 (.mv t90))])
 (.cond t84 .bad .skip)))))))
 (.seq (.reg [(mI p4 (.mv (.c (.int .i64 (.ofNat 0)))))])
 .ret)))))))
 [(.t p4)]
def ls74 : List Nat := [3, 10, 12]

/- (*delver/layout.Table).over -/
def f75 : Fd := .mk [p0, p1]
 (.seq (.reg [(.locb p3 t1),
 (mI p4 (.mv (.c (.int .i64 (.ofNat 0)))))])
 (.seq (.seq (.reg [(mI p13 (.fa 1 t3)),
 (mI p14 (.ld t13))])
 (.cond t14 .bad .skip))
 (.seq (.drw [(.mk true [p0] [p16] true (mI p16 (.mv t0))),
 (.mk true [p16] [p17] true (mI p17 (.nc t16))),
 (.mk true [p17] [p18] true (mI p18 (.fa 4 t17))),
 (.mk true [p18] [p19] true (mI p19 (.ld t18))),
 (.mk true [p3] [p20] true (mI p20 (.fa 0 t3))),
 (.mk true [p3, p20] [p21] true (mI p21 (.vla 0 t20))),
 (.mk true [p19, p21] [p22] false (mI p22 (.call p136 [t19, t21]))),
 (.mk true [p22] [p15] true (mI p15 (.mv t22))),
 (.mk true [p15] [p23] true (mI p23 (.ex t15 0))),
 (.mk true [p15] [p24] true (mI p24 (.ex t15 1))),
 (.mk true [p23] [p5] true (mI p5 (.mv t23))),
 (.mk true [p24] [p6] true (mI p6 (.mv t24)))])
 (.seq (.seq (.reg [(mI p25 (.fa 4 t3)),
 (mI p26 (.ld t25)),
 (mI p27 (.len t26)),
 (mI p28 (.mv (.c (.int .i64 (.ofNat 0)))))])
 (.block 0 (.loop [p0, p3, p5, p26, p27, p28] (.seq (.reg [(mI p29 (.bin .lt t28 t27))])
 (.seq (.cond t29 .skip (.exit 0))
 (.seq (.block 1 (.seq (.reg [(mI p30 (.ia 4 t26 t28)),
 (mI p31 (.lda 4 t30)),
 (mI p8 (.al [(.str 0 0), (.int .i64 (.ofNat 0)), (.str 0 0), (.bool false)])),
 (.mk none none (.st 4 t8 t31))])
 (.seq (.reg [(mI p32 (.fa 3 t8)),
 (mI p33 (.ld t32)),
 (mI p34 (.not t33)),
 (mI p35 (.mv t34)),
 (.mk (some p36) (some (p35, true)) (.mv t0)),
 (.mk (some p37) (some (p35, true)) (.nc t36)),
 (.mk (some p38) (some (p35, true)) (.fa 7 t37)),
 (.mk (some p39) (some (p35, true)) (.ld t38)),
 (.mk (some p40) (some (p35, true)) (.mv t5)),
 (.mk (some p41) (some (p35, true)) (.mm (.mlk false [2] [.nils] false false) [t39, t40])),
 (.mk (some p42) (some (p35, true)) (.mfn p144 [t8])),
 (.mk (some p43) (some (p35, true)) (.call p143 [t41, t42])),
 (mI p44 (.pick t35 t43 (.c (.bool false))))])
 (.cond t44 .bad .skip))))
 (.reg [(mI p45 (.bin .add t28 (.c (.int .i64 (.ofNat 1))))),
 (mI p28 (.mv t45))])))))))
 (.seq (.seq (.reg [(mI p46 (.fa 5 t3)),
 (mI p47 (.ld t46)),
 (mI p48 (.len t47)),
 (mI p49 (.mv (.c (.int .i64 (.ofNat 0)))))])
 (.block 2 (.loop [p0, p5, p47, p48, p49] (.seq (.reg [(mI p50 (.bin .lt t49 t48))])
 (.seq (.cond t50 .skip (.exit 2))
 (.seq (.block 3 (.seq (.reg [(mI p51 (.ia 9 t47 t49)),
 (mI p52 (.lda 9 t51)),
 (.loc p10 [(.str 0 0), (.bool false), (.bool false), .nils, (.int .i64 (.ofNat 0)), (.str 0 0), (.int .i64 (.ofNat 0)), .nils, .nils]),
 (.mk none none (.st 9 t10 t52))])
 (.seq (.drw [(.mk true [p0] [p54] true (mI p54 (.mv t0))),
 (.mk true [p54] [p55] true (mI p55 (.nc t54))),
 (.mk true [p55] [p56] true (mI p56 (.fa 9 t55))),
 (.mk true [p56] [p57] true (mI p57 (.ld t56))),
 (.mk true [p5] [p58] true (mI p58 (.mv t5))),
 (.mk true [p10] [p59] true (mI p59 (.fa 0 t10))),
 (.mk true [p10, p59] [p60] true (mI p60 (.vla 0 t59))),
 (.mk true [p58, p60] [p61] true (mI p61 (.bld [(.str 0 0), (.str 0 0)] [(0, 1, t58), (1, 1, t60)]))),
 (.mk true [p57, p61] [p62] true (mI p62 (.mm (.mlk true [2, 2] [(.str 0 0), (.bool false), (.bool false), .nils, (.int .i64 (.ofNat 0)), (.str 0 0), (.int .i64 (.ofNat 0)), .nils, .nils] true true) [t57, t61]))),
 (.mk true [p62] [p53] true (mI p53 (.mv t62))),
 (.mk true [p53] [p63] true (mI p63 (.ex t53 0))),
 (.mk true [p53] [p64] true (mI p64 (.ex t53 1))),
 (.mk true [p11] [p11] true (.loc p11 [(.str 0 0), (.bool false), (.bool false), .nils, (.int .i64 (.ofNat 0)), (.str 0 0), (.int .i64 (.ofNat 0)), .nils, .nils])),
 (.mk true [p11, p63] [p11] true (.mk none none (.st 9 t11 t63))),
 (.mk true [p64] [p12] true (mI p12 (.mv t64)))])
 (.seq (.reg [(mI p65 (.mv t12)),
 (mI p66 (.mv t65)),
 (.mk (some p67) (some (p66, true)) (.lda 9 t10)),
 (.mk (some p68) (some (p66, true)) (.lda 9 t11)),
 (.mk (some p69) (some (p66, true)) (.call p145 [t67, t68])),
 (.mk (some p70) (some (p66, true)) (.not t69)),
 (mI p71 (.pick t66 t70 (.c (.bool false))))])
 (.cond t71 .bad .skip)))))
 (.reg [(mI p72 (.bin .add t49 (.c (.int .i64 (.ofNat 1))))),
 (mI p49 (.mv t72))])))))))
 (.seq (.reg [(mI p4 (.mv (.c (.int .i64 (.ofNat 0)))))])
 .ret))))))
 [(.t p4)]
def ls75 : List Nat := [3, 10, 11]

/- (*delver/layout.Table).keeps -/
def f76 : Fd := .mk [p0, p1]
 (.seq (.reg [(.locb p3 t1),
 (mI p4 (.mv (.c (.int .i64 (.ofNat 0)))))])
 (.seq (.seq (.reg [(mI p13 (.fa 1 t3)),
 (mI p14 (.ld t13))])
 (.cond t14 .bad .skip))
 (.seq (.seq (.reg [(mI p15 (.mv t0)),
 (mI p16 (.nc t15)),
 (mI p17 (.fa 4 t16)),
 (mI p18 (.ld t17)),
 (mI p19 (.nc t18)),
 (mI p20 (.fa 1 t19)),
 (mI p21 (.ld t20)),
 (mI p22 (.len t21)),
 (mI p23 (.mv (.c (.int .i64 (.ofNat 0)))))])
 (.block 0 (.loop [p0, p3, p21, p22, p23] (.seq (.reg [(mI p24 (.bin .lt t23 t22))])
 (.seq (.cond t24 .skip (.exit 0))
 (.seq (.block 1 (.seq (.reg [(mI p25 (.ia 1 t21 t23)),
 (mI p26 (.ld t25)),
 (mI p6 (.mv t26))])
 (.seq (.reg [(mI p28 (.mv t0)),
 (mI p29 (.nc t28)),
 (mI p30 (.fa 4 t29)),
 (mI p31 (.ld t30)),
 (mI p32 (.mv t6)),
 (mI p33 (.call p45 [t31, t32])),
 (mI p27 (.mv t33)),
 (mI p34 (.ex t27 0)),
 (mI p35 (.ex t27 1)),
 (.loc p7 [(.str 0 0), (.bool false), (.str 0 0), .nils, .nils, .nils]),
 (.mk none none (.st 6 t7 t34)),
 (mI p8 (.mv t35))])
 (.seq (.seq (.drw [(.mk true [p7] [p36] true (mI p36 (.fa 1 t7))),
 (.mk true [p7, p36] [p37] true (mI p37 (.vla 0 t36))),
 (.mk true [p37] [p38] true (mI p38 (.not t37))),
 (.mk true [p38] [p39] true (mI p39 (.mv t38))),
 (.mk true [p0, p39] [p40] true (.mk (some p40) (some (p39, false)) (.mv t0))),
 (.mk true [p40, p39] [p41] true (.mk (some p41) (some (p39, false)) (.nc t40))),
 (.mk true [p41, p39] [p42] true (.mk (some p42) (some (p39, false)) (.fa 4 t41))),
 (.mk true [p42, p39] [p43] true (.mk (some p43) (some (p39, false)) (.ld t42))),
 (.mk true [p3, p39] [p44] true (.mk (some p44) (some (p39, false)) (.fa 0 t3))),
 (.mk true [p3, p44, p39] [p45] true (.mk (some p45) (some (p39, false)) (.vla 0 t44))),
 (.mk true [p6, p39] [p46] true (.mk (some p46) (some (p39, false)) (.mv t6))),
 (.mk true [p43, p45, p46, p39] [p47] false (.mk (some p47) (some (p39, false)) (.call p46 [t43, t45, t46]))),
 (.mk true [p47, p39] [p48] true (.mk (some p48) (some (p39, false)) (.not t47))),
 (.mk true [p39, p48] [p49] true (mI p49 (.pick t39 (.c (.bool true)) t48)))])
 (.cond t49 (.exit 1) .bad))
 .bad))))
 (.reg [(mI p79 (.bin .add t23 (.c (.int .i64 (.ofNat 1))))),
 (mI p23 (.mv t79))])))))))
 (.seq (.reg [(mI p4 (.mv (.c (.int .i64 (.ofNat 0)))))])
 .ret))))
 [(.t p4)]
def ls76 : List Nat := [3, 7, 10, 11]

/- delver/flow.states -/
def f77 : Fd := .mk [p0, p1, p2]
 (.seq (.reg [(.locb p5 t2),
 (mI p6 (.mv (.c .nils))),
 (mI p7 (.mv (.c (.int .i64 (.ofNat 0))))),
 (mI p8 (.mv (.c (.int .i64 (.ofNat 0)))))])
 (.seq (.reg [(mI p16 (.mv t1)),
 (mI p17 (.lda 9 t5)),
 (mI p18 (.call p146 [t16, t17])),
 (mI p15 (.mv t18)),
 (mI p19 (.ex t15 0)),
 (mI p20 (.ex t15 1)),
 (.loc p9 [(.bool false), .nils, .nils]),
 (.mk none none (.st 3 t9 t19)),
 (mI p10 (.mv t20))])
 (.seq (.seq (.reg [(mI p21 (.fa 7 t5)),
 (mI p22 (.ld t21)),
 (mI p23 (.len t22)),
 (mI p24 (.bin .eq t23 (.c (.int .i64 (.ofNat 0))))),
 (mI p25 (.mv t24)),
 (.mk (some p26) (some (p25, false)) (.mv t10)),
 (.mk (some p27) (some (p25, false)) (.not t26)),
 (mI p28 (.pick t25 (.c (.bool true)) t27))])
 (.cond t28 .bad .skip))
 (.seq (.drw [(.mk true [p0] [p29] true (mI p29 (.mv t0))),
 (.mk true [p5] [p30] true (mI p30 (.vla 9 t5))),
 (.mk true [p5] [p31] true (mI p31 (.fa 7 t5))),
 (.mk true [p5, p31] [p32] true (mI p32 (.vla 0 t31))),
 (.mk true [p32] [p33] true (mI p33 (.len t32))),
 (.mk true [p33] [p34] true (mI p34 (.msl 3 56 [(.bool false), .nils, .nils] t33 t33))),
 (.mk true [p5] [p35] true (mI p35 (.fa 7 t5))),
 (.mk true [p5, p35] [p36] true (mI p36 (.vla 0 t35))),
 (.mk true [p36] [p37] true (mI p37 (.len t36))),
 (.mk true [p37] [p38] true (mI p38 (.msl 1 1 [(.bool false)] t37 t37))),
 (.mk true [p29, p30, p34, p38] [p39] true (mI p39 (.bld [.nilp, (.str 0 0), (.bool false), (.bool false), .nils, (.int .i64 (.ofNat 0)), (.str 0 0), (.int .i64 (.ofNat 0)), .nils, .nils, .nils, .nils] [(0, 1, t29), (1, 9, t30), (10, 1, t34), (11, 1, t38)]))),
 (.mk true [p39] [p40] true (mI p40 (.bx t39))),
 (.mk true [p40] [p11] true (mI p11 (.mv t40)))])
 (.seq (.seq (.reg [(mI p41 (.mv t11)),
 (mI p42 (.call p147 [t41])),
 (mI p12 (.mv t42))])
 (.seq (.reg [(mI p43 (.mv t12)),
 (mI p44 (.bin .ne t43 (.c (.int .i64 (.ofNat 0)))))])
 (.cond t44 .bad .skip)))
 (.seq (.drw [(.mk true [p11] [p46] true (mI p46 (.mv t11))),
 (.mk true [p46] [p47] true (mI p47 (.nc t46))),
 (.mk true [p47] [p48] true (mI p48 (.fa 10 t47))),
 (.mk true [p48] [p49] true (mI p49 (.ld t48))),
 (.mk true [p11] [p50] true (mI p50 (.mv t11))),
 (.mk true [p50] [p51] true (mI p51 (.nc t50))),
 (.mk true [p51] [p52] true (mI p52 (.fa 11 t51))),
 (.mk true [p52] [p53] true (mI p53 (.ld t52))),
 (.mk true [p9] [p54] true (mI p54 (.vla 3 t9))),
 (.mk true [p49] [p55] true (mI p55 (.ia 3 t49 (.c (.int .i64 (.ofNat 0)))))),
 (.mk true [p55, p54] [] false (.mk none none (.st 3 t55 t54))),
 (.mk true [p53] [p56] true (mI p56 (.ia 1 t53 (.c (.int .i64 (.ofNat 0)))))),
 (.mk true [p56] [] false (.mk none none (.st 1 t56 (.c (.bool true)))))])
 (.seq (.seq (.reg [(mI p57 (.mv t11)),
 (mI p58 (.nc t57)),
 (mI p59 (.fa 11 t58)),
 (mI p60 (.ld t59)),
 (mI p61 (.call p148 [t60, (.c (.bool true))])),
 (mI p13 (.mv t61))])
 (.block 0 (.loop [p11, p13] (.seq (.seq (.reg [(mI p62 (.mv t13)),
 (mI p63 (.bin .ge t62 (.c (.int .i64 (.ofNat 0)))))])
 (.cond t63 .skip (.exit 0)))
 (.seq (.block 1 (.seq (.reg [(mI p69 (.mv t11)),
 (mI p70 (.mv t13)),
 (mI p71 (.call p149 [t69, t70])),
 (mI p14 (.mv t71))])
 (.seq (.reg [(mI p72 (.mv t14)),
 (mI p73 (.bin .ne t72 (.c (.int .i64 (.ofNat 0)))))])
 (.cond t73 .bad .skip))))
 (.reg [(mI p64 (.mv t11)),
 (mI p65 (.nc t64)),
 (mI p66 (.fa 11 t65)),
 (mI p67 (.ld t66)),
 (mI p68 (.call p148 [t67, (.c (.bool true))])),
 (mI p13 (.mv t68))]))))))
 (.seq (.reg [(mI p76 (.mv t11)),
 (mI p77 (.nc t76)),
 (mI p78 (.fa 10 t77)),
 (mI p79 (.ld t78)),
 (mI p6 (.mv t79)),
 (mI p7 (.mv (.c (.int .i64 (.ofNat 0))))),
 (mI p8 (.mv (.c (.int .i64 (.ofNat 0)))))])
 .ret))))))))
 [(.t p6), (.t p7), (.t p8)]
def ls77 : List Nat := [5, 9]

/- slices.IndexFunc[[]delver/api.Method,delver/api.Method] -/
def f78 : Fd := .mk [p0, p1]
 (.seq (.reg [(mI p4 (.mv (.c (.int .i64 (.ofNat 0)))))])
 (.seq (.seq (.reg [(mI p6 (.mv t0)),
 (mI p7 (.len t6)),
 (mI p8 (.mv (.c (.int .i64 (.ofNat 0)))))])
 (.block 0 (.loop [p0, p1, p7, p8] (.seq (.reg [(mI p9 (.bin .lt t8 t7))])
 (.seq (.cond t9 .skip (.exit 0))
 (.seq (.block 1 (.seq (.reg [(mI p10 (.mv t8)),
 (mI p5 (.mv t10))])
 (.seq (.reg [(mI p11 (.mv t1)),
 (mI p12 (.mv t0)),
 (mI p13 (.mv t5)),
 (mI p14 (.ia 9 t12 t13)),
 (mI p15 (.lda 9 t14)),
 (mI p16 (.callv t11 [t15]))])
 (.cond t16 (.seq (.reg [(mI p17 (.mv t5)),
 (mI p4 (.mv t17))])
 .ret) .skip))))
 (.reg [(mI p18 (.bin .add t8 (.c (.int .i64 (.ofNat 1))))),
 (mI p8 (.mv t18))])))))))
 (.seq (.reg [(mI p4 (.mv (.c (.int .i64 (.negSucc 0)))))])
 .ret)))
 [(.t p4)]
def ls78 : List Nat := []

/- delver/flow.Own$1 -/
def f79 : Fd := .mk [p0, p1]
 (.seq (.reg [(.locb p2 t0),
 (mI p3 (.mv (.c (.bool false))))])
 (.seq (.reg [(mI p4 (.fa 0 t2)),
 (mI p5 (.ld t4)),
 (mI p6 (.ld t1)),
 (mI p7 (.px (.seq false) [t5, t6])),
 (mI p3 (.mv t7))])
 .ret))
 [(.t p3)]
def ls79 : List Nat := [2]

/- delver/open.fresh -/
def f80 : Fd := .mk [p0, p1]
 (.seq (.reg [(mI p4 (.mv (.c .nils))),
 (mI p5 (.mv (.c (.int .i64 (.ofNat 0))))),
 (mI p6 (.mv (.c (.bool false))))])
 (.seq (.reg [(mI p7 (.mv (.c .nils)))])
 (.seq (.seq (.reg [(mI p10 (.mv t0)),
 (mI p11 (.len t10)),
 (mI p12 (.mv (.c (.int .i64 (.ofNat 0)))))])
 (.block 0 (.loop [p1, p7, p10, p11, p12] (.seq (.reg [(mI p13 (.bin .lt t12 t11))])
 (.seq (.cond t13 .skip (.exit 0))
 (.seq (.block 1 (.seq (.reg [(mI p14 (.ia 2 t10 t12)),
 (mI p15 (.lda 2 t14)),
 (.loc p9 [(.int .i64 (.ofNat 0)), (.str 0 0)]),
 (.mk none none (.st 2 t9 t15))])
 (.seq (.reg [(mI p16 (.fa 0 t9)),
 (mI p17 (.ld t16))])
 (.block 2 (.seq (.reg [(mI p19 (.bin .eq t17 (.c (.int .i64 (.ofNat 2))))),
 (mI p18 (.mv t19))])
 (.cond t18 .bad (.seq (.seq (.reg [(mI p31 (.bin .eq t17 (.c (.int .i64 (.ofNat 3))))),
 (mI p30 (.mv t31))])
 (.cond t30 .skip .bad))
 (.cond t30 (.reg [(mI p34 (.mv t7)),
 (mI p35 (.bld [(.int .i64 (.ofNat 0)), (.int .i64 (.ofNat 0)), .nils, (.int .i64 (.ofNat 0))] [(0, 1, (.c (.int .i64 (.ofNat 4))))])),
 (mI p36 (.bsl 1 4 [(.int .i64 (.ofNat 0)), (.int .i64 (.ofNat 0)), .nils, (.int .i64 (.ofNat 0))] [(0, 4, t35)])),
 (mI p37 (.app 4 48 t34 t36)),
 (mI p7 (.mv t37))]) .bad))))))))
 (.reg [(mI p38 (.bin .add t12 (.c (.int .i64 (.ofNat 1))))),
 (mI p12 (.mv t38))])))))))
 (.seq (.reg [(mI p39 (.mv t7)),
 (mI p40 (.mv t1)),
 (mI p4 (.mv t39)),
 (mI p5 (.mv t40)),
 (mI p6 (.mv (.c (.bool true))))])
 .ret))))
 [(.t p4), (.t p5), (.t p6)]
def ls80 : List Nat := [9]

/- delver/walk.shallow -/
def f81 : Fd := .mk [p0]
 (.seq (.reg [(mI p2 (.mv (.c .nils)))])
 (.seq (.reg [(mI p4 (.mv t0)),
 (mI p5 (.call p150 [t4])),
 (mI p0 (.mv t5))])
 (.seq (.seq (.reg [(mI p6 (.mv t0)),
 (mI p7 (.len t6)),
 (mI p8 (.mv (.c (.int .i64 (.ofNat 0)))))])
 (.block 0 (.loop [p0, p7, p8] (.seq (.reg [(mI p9 (.bin .lt t8 t7))])
 (.seq (.cond t9 .skip (.exit 0))
 (.seq (.block 1 (.seq (.reg [(mI p10 (.mv t8)),
 (mI p3 (.mv t10))])
 (.reg [(mI p11 (.mv t0)),
 (mI p12 (.mv t3)),
 (mI p13 (.mv t0)),
 (mI p14 (.mv t3)),
 (mI p15 (.ia 4 t13 t14)),
 (mI p16 (.fa 2 t15)),
 (mI p17 (.ld t16)),
 (mI p18 (.call p151 [t17])),
 (mI p19 (.ia 4 t11 t12)),
 (mI p20 (.fa 2 t19)),
 (.mk none none (.st 1 t20 t18))])))
 (.reg [(mI p21 (.bin .add t8 (.c (.int .i64 (.ofNat 1))))),
 (mI p8 (.mv t21))])))))))
 (.seq (.reg [(mI p22 (.mv t0)),
 (mI p2 (.mv t22))])
 .ret))))
 [(.t p2)]
def ls81 : List Nat := []

/- (*delver/layout.Table).Statics -/
def f82 : Fd := .mk [p0]
 (.seq (.reg [(mI p2 (.mv (.c .nils)))])
 (.seq (.seq (.reg [(mI p3 (.mv t0)),
 (mI p4 (.call p15 [t3])),
 (mI p5 (.bin .ne t4 (.c (.int .i64 (.ofNat 0)))))])
 (.cond t5 .bad .skip))
 (.seq (.reg [(mI p6 (.mv t0)),
 (mI p7 (.nc t6)),
 (mI p8 (.fa 8 t7)),
 (mI p9 (.ld t8)),
 (mI p2 (.mv t9))])
 .ret)))
 [(.t p2)]
def ls82 : List Nat := []

/- delver/walk.frame -/
def f84 : Fd := .mk [p0, p1, p2]
 (.seq (.reg [(.locb p4 t1),
 (.loc p6 [(.str 0 0), (.str 0 0), (.int .i64 (.ofNat 0)), .nils, .nils])])
 (.seq (.reg [(mI p8 (.mv t2)),
 (mI p9 (.call p151 [t8])),
 (mI p7 (.mv t9))])
 (.seq (.block 0 (.loop [p0, p4, p6, p7] (.seq (.seq (.reg [(mI p10 (.mv t7)),
 (mI p11 (.len t10)),
 (mI p12 (.fa 6 t4)),
 (mI p13 (.ld t12)),
 (mI p14 (.bin .lt t11 t13))])
 (.cond t14 .bad (.exit 0)))
 .bad)))
 (.seq (.reg [(mI p19 (.mv t0)),
 (mI p20 (.fa 0 t4)),
 (mI p21 (.ld t20)),
 (mI p22 (.mv t7)),
 (mI p23 (.bld [(.str 0 0), (.str 0 0), (.int .i64 (.ofNat 0)), .nils, .nils] [(0, 1, t19), (1, 1, t21), (3, 1, t22)])),
 (.mk none none (.st 5 t6 t23))])
 .ret))))
 [(.cell p6 (some 5))]
def ls84 : List Nat := [4, 6]

/- delver/walk.twin -/
def f85 : Fd := .mk [p0]
 (.seq (.reg [(.locb p1 t0),
 (.loc p2 [.nils, .nils, (.int .i64 (.ofNat 0)), .nils, .nils, (.int .i64 (.ofNat 0)), .nils, .nils, .nils, (.int .i64 (.ofNat 0)), (.int .i64 (.ofNat 0)), (.int .i64 (.ofNat 0)), (.int .i64 (.ofNat 0)), .nils, (.int .i64 (.ofNat 0))])])
 (.seq (.drw [(.mk true [p1] [p5] true (mI p5 (.fa 0 t1))),
 (.mk true [p1, p5] [p6] true (mI p6 (.fa 0 t5))),
 (.mk true [p1, p6] [p7] true (mI p7 (.vla 0 t6))),
 (.mk true [p7] [p8] false (mI p8 (.call p151 [t7]))),
 (.mk true [p1] [p9] true (mI p9 (.fa 0 t1))),
 (.mk true [p1, p9] [p10] true (mI p10 (.fa 1 t9))),
 (.mk true [p1, p10] [p11] true (mI p11 (.vla 0 t10))),
 (.mk true [p11] [p12] false (mI p12 (.call p81 [t11]))),
 (.mk true [p1] [p13] true (mI p13 (.fa 6 t1))),
 (.mk true [p1, p13] [p14] true (mI p14 (.vla 0 t13))),
 (.mk true [p14] [p15] false (mI p15 (.call p81 [t14]))),
 (.mk true [p1] [p16] true (mI p16 (.fa 0 t1))),
 (.mk true [p1, p16] [p17] true (mI p17 (.fa 0 t16))),
 (.mk true [p1, p17, p8] [p1] true (.mk none none (.st 1 t17 t8))),
 (.mk true [p1] [p18] true (mI p18 (.fa 0 t1))),
 (.mk true [p1, p18] [p19] true (mI p19 (.fa 1 t18))),
 (.mk true [p1, p19, p12] [p1] true (.mk none none (.st 1 t19 t12))),
 (.mk true [p1] [p20] true (mI p20 (.fa 6 t1))),
 (.mk true [p1, p20, p15] [p1] true (.mk none none (.st 1 t20 t15)))])
 (.seq (.drw [(.mk true [p1] [p21] true (mI p21 (.fa 3 t1))),
 (.mk true [p1, p21] [p22] true (mI p22 (.vla 0 t21))),
 (.mk true [p22] [p23] false (mI p23 (.call p24 [t22]))),
 (.mk true [p1] [p24] true (mI p24 (.fa 4 t1))),
 (.mk true [p1, p24] [p25] true (mI p25 (.vla 0 t24))),
 (.mk true [p25] [p26] false (mI p26 (.call p21 [t25]))),
 (.mk true [p1] [p27] true (mI p27 (.fa 7 t1))),
 (.mk true [p1, p27] [p28] true (mI p28 (.vla 0 t27))),
 (.mk true [p28] [p29] false (mI p29 (.call p151 [t28]))),
 (.mk true [p1] [p30] true (mI p30 (.fa 3 t1))),
 (.mk true [p1, p30, p23] [p1] true (.mk none none (.st 1 t30 t23))),
 (.mk true [p1] [p31] true (mI p31 (.fa 4 t1))),
 (.mk true [p1, p31, p26] [p1] true (.mk none none (.st 1 t31 t26))),
 (.mk true [p1] [p32] true (mI p32 (.fa 7 t1))),
 (.mk true [p1, p32, p29] [p1] true (.mk none none (.st 1 t32 t29)))])
 (.seq (.reg [(mI p33 (.fa 8 t1)),
 (mI p34 (.ld t33)),
 (mI p35 (.call p28 [t34])),
 (mI p36 (.fa 8 t1)),
 (.mk none none (.st 1 t36 t35))])
 (.seq (.seq (.reg [(mI p37 (.fa 8 t1)),
 (mI p38 (.ld t37)),
 (mI p39 (.len t38)),
 (mI p40 (.mv (.c (.int .i64 (.ofNat 0)))))])
 (.block 0 (.loop [p1, p2, p39, p40] (.seq (.reg [(mI p41 (.bin .lt t40 t39))])
 (.seq (.cond t41 .skip (.exit 0))
 (.seq (.block 1 (.seq (.reg [(mI p42 (.mv t40)),
 (mI p3 (.mv t42))])
 (.seq (.reg [(mI p43 (.fa 8 t1)),
 (mI p44 (.ld t43)),
 (mI p45 (.mv t3)),
 (mI p46 (.ia 5 t44 t45)),
 (mI p4 (.mv t46))])
 (.drw [(.mk true [p4] [p47] true (mI p47 (.mv t4))),
 (.mk true [p4] [p48] true (mI p48 (.mv t4))),
 (.mk true [p4] [p49] true (mI p49 (.mv t4))),
 (.mk true [p49] [p50] true (mI p50 (.nc t49))),
 (.mk true [p50] [p51] true (mI p51 (.fa 3 t50))),
 (.mk true [p51] [p52] true (mI p52 (.ld t51))),
 (.mk true [p52] [p53] true (mI p53 (.call p151 [t52]))),
 (.mk true [p4] [p54] true (mI p54 (.mv t4))),
 (.mk true [p54] [p55] true (mI p55 (.nc t54))),
 (.mk true [p55] [p56] true (mI p56 (.fa 4 t55))),
 (.mk true [p56] [p57] true (mI p57 (.ld t56))),
 (.mk true [p57] [p58] false (mI p58 (.call p151 [t57]))),
 (.mk true [p47] [p59] true (mI p59 (.nc t47))),
 (.mk true [p59] [p60] true (mI p60 (.fa 3 t59))),
 (.mk true [p60, p53] [] false (.mk none none (.st 1 t60 t53))),
 (.mk true [p48] [p61] true (mI p61 (.nc t48))),
 (.mk true [p61] [p62] true (mI p62 (.fa 4 t61))),
 (.mk true [p62, p58] [] false (.mk none none (.st 1 t62 t58)))]))))
 (.reg [(mI p63 (.bin .add t40 (.c (.int .i64 (.ofNat 1))))),
 (mI p40 (.mv t63))])))))))
 (.seq (.reg [(mI p64 (.lda 15 t1)),
 (.mk none none (.st 15 t2 t64))])
 .ret))))))
 [(.cell p2 (some 15))]
def ls85 : List Nat := [1, 2]

/- (*delver/walk.sim).told -/
def f86 : Fd := .mk [p0, p1]
 (.seq (.reg [(.locb p3 t1),
 (mI p4 (.mv (.c (.int .i64 (.ofNat 0))))),
 (mI p5 (.mv (.c (.bool false))))])
 (.seq (.seq (.reg [(mI p6 (.fa 0 t3)),
 (mI p7 (.ld t6))])
 (.block 0 (.seq (.reg [(mI p9 (.bin .eq t7 (.c (.int .i64 (.ofNat 1))))),
 (mI p8 (.mv t9))])
 (.cond t8 (.seq (.reg [(mI p4 (.mv (.c (.int .i64 (.negSucc 0))))),
 (mI p5 (.mv (.c (.bool true))))])
 .ret) (.seq (.reg [(mI p11 (.bin .eq t7 (.c (.int .i64 (.ofNat 2))))),
 (mI p10 (.mv t11))])
 (.cond t10 .bad .skip))))))
 (.seq (.reg [(mI p14 (.mv t0)),
 (mI p15 (.lda 4 t3)),
 (mI p16 (.call p152 [t14, t15])),
 (mI p17 (.ex t16 0)),
 (mI p18 (.ex t16 1)),
 (mI p4 (.mv t17)),
 (mI p5 (.mv t18))])
 .ret)))
 [(.t p4), (.t p5)]
def ls86 : List Nat := [3]

/- delver/open.Set -/
def f87 : Fd := .mk [p0, p1, p2, p3, p4]
 (.seq (.reg [(.locb p5 t0),
 (.locb p9 t4),
 (.loc p10 [.nils, .nils]),
 (mI p11 (.mv (.c (.int .i64 (.ofNat 0)))))])
 (.seq (.reg [(mI p15 (.lda 2 t5)),
 (mI p16 (.mv t1)),
 (mI p17 (.call p153 [t15, t16])),
 (mI p12 (.mv t17))])
 (.seq (.seq (.reg [(mI p18 (.mv t12)),
 (mI p19 (.bin .ne t18 (.c (.int .i64 (.ofNat 0)))))])
 (.cond t19 .bad .skip))
 (.seq (.reg [(mI p22 (.lda 2 t5)),
 (mI p23 (.call p23 [t22])),
 (.mk none none (.st 2 t5 t23))])
 (.seq (.reg [(mI p24 (.fa 0 t5)),
 (mI p25 (.ld t24)),
 (mI p13 (.mv t25))])
 (.seq (.seq (.reg [(mI p26 (.mv t2)),
 (mI p27 (.bin .ge t26 (.c (.int .i64 (.ofNat 0))))),
 (mI p28 (.mv t27)),
 (.mk (some p29) (some (p28, true)) (.mv t2)),
 (.mk (some p30) (some (p28, true)) (.fa 1 t5)),
 (.mk (some p31) (some (p28, true)) (.ld t30)),
 (.mk (some p32) (some (p28, true)) (.len t31)),
 (.mk (some p33) (some (p28, true)) (.bin .lt t29 t32)),
 (mI p34 (.pick t28 t33 (.c (.bool false))))])
 (.cond t34 .bad .skip))
 (.seq (.reg [(mI p41 (.lda 2 t5)),
 (mI p42 (.mv t1)),
 (mI p43 (.mm .mmk [])),
 (mI p44 (.bld [.nils, .nils, (.int .i64 (.ofNat 0)), .nilm] [(0, 2, t41), (2, 1, t42), (3, 1, t43)])),
 (mI p45 (.bx t44)),
 (mI p14 (.mv t45))])
 (.seq (.block 0 (.seq (.reg [(mI p47 (.mv t2)),
 (mI p48 (.bin .lt t47 (.c (.int .i64 (.negSucc 0))))),
 (mI p49 (.mv t48)),
 (.mk (some p50) (some (p49, false)) (.mv t2)),
 (.mk (some p51) (some (p49, false)) (.fa 1 t5)),
 (.mk (some p52) (some (p49, false)) (.ld t51)),
 (.mk (some p53) (some (p49, false)) (.len t52)),
 (.mk (some p54) (some (p49, false)) (.bin .ge t50 t53)),
 (mI p55 (.pick t49 (.c (.bool true)) t54)),
 (mI p56 (.mv t55)),
 (.mk (some p57) (some (p56, false)) (.mv t3)),
 (.mk (some p58) (some (p56, false)) (.bin .lt t57 (.c (.int .i64 (.ofNat 0))))),
 (mI p59 (.pick t56 (.c (.bool true)) t58)),
 (mI p60 (.mv t59)),
 (.mk (some p61) (some (p60, false)) (.mv t3)),
 (.mk (some p62) (some (p60, false)) (.mv t13)),
 (.mk (some p63) (some (p60, false)) (.len t62)),
 (.mk (some p64) (some (p60, false)) (.bin .ge t61 t63)),
 (mI p65 (.pick t60 (.c (.bool true)) t64)),
 (mI p66 (.mv t65)),
 (.mk (some p67) (some (p66, false)) (.mv t13)),
 (.mk (some p68) (some (p66, false)) (.mv t3)),
 (.mk (some p69) (some (p66, false)) (.ia 4 t67 t68)),
 (.mk (some p70) (some (p66, false)) (.fa 0 t69)),
 (.mk (some p71) (some (p66, false)) (.ld t70)),
 (.mk (some p72) (some (p66, false)) (.bin .ne t71 (.c (.int .i64 (.ofNat 4))))),
 (mI p73 (.pick t66 (.c (.bool true)) t72)),
 (mI p46 (.mv t73))])
 (.cond t46 .bad (.seq (.reg [(mI p76 (.fa 0 t9)),
 (mI p77 (.ld t76)),
 (mI p78 (.bin .ne t77 (.c (.int .i64 (.ofNat 2))))),
 (mI p79 (.mv t78)),
 (.mk (some p80) (some (p79, true)) (.fa 0 t9)),
 (.mk (some p81) (some (p79, true)) (.ld t80)),
 (.mk (some p82) (some (p79, true)) (.bin .ne t81 (.c (.int .i64 (.ofNat 3))))),
 (mI p83 (.pick t79 t82 (.c (.bool false)))),
 (mI p84 (.mv t83)),
 (.mk (some p85) (some (p84, false)) (.mv t14)),
 (.mk (some p86) (some (p84, false)) (.lda 4 t9)),
 (.mk (some p87) (some (p84, false)) (.call p154 [t85, t86])),
 (.mk (some p88) (some (p84, false)) (.not t87)),
 (mI p89 (.pick t84 (.c (.bool true)) t88)),
 (mI p75 (.mv t89))])
 (.cond t75 .bad .skip)))))
 (.seq (.reg [(mI p91 (.mv t13)),
 (mI p92 (.mv t3)),
 (mI p93 (.fa 0 t9)),
 (mI p94 (.ld t93)),
 (mI p95 (.fa 3 t9)),
 (mI p96 (.ld t95)),
 (mI p97 (.bld [(.int .i64 (.ofNat 0)), (.int .i64 (.ofNat 0)), .nils, (.int .i64 (.ofNat 0))] [(0, 1, t94), (3, 1, t96)])),
 (mI p98 (.ia 4 t91 t92)),
 (.mk none none (.st 4 t98 t97))])
 (.seq (.reg [(mI p99 (.lda 2 t5)),
 (.mk none none (.st 2 t10 t99)),
 (mI p11 (.mv (.c (.int .i64 (.ofNat 0)))))])
 .ret))))))))))
 [(.cell p10 (some 2)), (.t p11)]
def ls87 : List Nat := [5, 9, 10]

/- delver/walk.sym -/
def f88 : Fd := .mk [p0]
 (.seq (.reg [(.loc p2 [(.int .i64 (.ofNat 0)), (.int .i64 (.ofNat 0)), .nils, (.int .i64 (.ofNat 0))])])
 (.seq (.seq (.reg [(mI p3 (.mv t0)),
 (mI p4 (.bin .lt t3 (.c (.int .i64 (.ofNat 0)))))])
 (.cond t4 (.seq (.reg [(mI p5 (.call p102 [])),
 (.mk none none (.st 4 t2 t5))])
 .ret) .skip))
 (.seq (.reg [(mI p6 (.mv t0)),
 (mI p7 (.call p155 [t6])),
 (.mk none none (.st 4 t2 t7))])
 .ret)))
 [(.cell p2 (some 4))]
def ls88 : List Nat := [2]

/- delver/walk.integer -/
def f90 : Fd := .mk [p0]
 (.seq (.reg [(.loc p2 [(.int .i64 (.ofNat 0)), (.int .i64 (.ofNat 0)), .nils, (.int .i64 (.ofNat 0))])])
 (.seq (.reg [(mI p3 (.mv t0)),
 (mI p4 (.bld [(.int .i64 (.ofNat 0)), .nils] [(0, 1, t3)])),
 (mI p5 (.bld [(.int .i64 (.ofNat 0)), (.int .i64 (.ofNat 0)), .nils, (.int .i64 (.ofNat 0))] [(0, 1, (.c (.int .i64 (.ofNat 1)))), (1, 2, t4)])),
 (.mk none none (.st 4 t2 t5))])
 .ret))
 [(.cell p2 (some 4))]
def ls90 : List Nat := [2]

/- delver/walk.one -/
def f92 : Fd := .mk [p0]
 (.seq (.reg [(.loc p2 [(.int .i64 (.ofNat 0)), (.int .i64 (.ofNat 0)), .nils])])
 (.seq (.reg [(mI p3 (.mv t0)),
 (mI p4 (.nc t3)),
 (mI p5 (.fa 1 t4)),
 (mI p6 (.lda 15 t5)),
 (mI p7 (.bld [.nils, .nils, .nils, (.int .i64 (.ofNat 0)), .nils, .nils, (.int .i64 (.ofNat 0)), .nils, .nils, .nils, (.int .i64 (.ofNat 0)), (.int .i64 (.ofNat 0)), (.int .i64 (.ofNat 0)), (.int .i64 (.ofNat 0)), .nils, (.int .i64 (.ofNat 0))] [(1, 15, t6)])),
 (mI p8 (.bsl 1 16 [.nils, .nils, .nils, (.int .i64 (.ofNat 0)), .nils, .nils, (.int .i64 (.ofNat 0)), .nils, .nils, .nils, (.int .i64 (.ofNat 0)), (.int .i64 (.ofNat 0)), (.int .i64 (.ofNat 0)), (.int .i64 (.ofNat 0)), .nils, (.int .i64 (.ofNat 0))] [(0, 16, t7)])),
 (mI p9 (.bld [(.int .i64 (.ofNat 0)), (.int .i64 (.ofNat 0)), .nils] [(2, 1, t8)])),
 (.mk none none (.st 3 t2 t9))])
 .ret))
 [(.cell p2 (some 3))]
def ls92 : List Nat := [2]

/- (*delver/walk.sim).gives -/
def f93 : Fd := .mk [p0, p1]
 (.seq (.reg [(.locb p3 t1),
 (mI p4 (.mv (.c .nilp)))])
 (.seq (.reg [(mI p5 (.mv t0)),
 (mI p6 (.lda 4 t3)),
 (mI p7 (.call p101 [t5, t6]))])
 (.seq (.reg [(mI p8 (.mv t0)),
 (mI p9 (.call p103 [t8])),
 (mI p4 (.mv t9))])
 .ret)))
 [(.t p4)]
def ls93 : List Nat := [3]

/- (*delver/walk.sim).pop -/
def f94 : Fd := .mk [p0]
 (.seq (.reg [(.loc p2 [(.int .i64 (.ofNat 0)), (.int .i64 (.ofNat 0)), .nils, (.int .i64 (.ofNat 0))])])
 (.seq (.reg [(mI p6 (.mv t0)),
 (mI p7 (.call p100 [t6])),
 (mI p3 (.mv t7))])
 (.seq (.reg [(mI p8 (.mv t3)),
 (mI p9 (.nc t8)),
 (mI p10 (.fa 4 t9)),
 (mI p11 (.ld t10)),
 (mI p12 (.len t11)),
 (mI p13 (.bin .sub t12 (.c (.int .i64 (.ofNat 1))))),
 (mI p4 (.mv t13))])
 (.seq (.reg [(mI p14 (.mv t3)),
 (mI p15 (.nc t14)),
 (mI p16 (.fa 4 t15)),
 (mI p17 (.ld t16)),
 (mI p18 (.mv t4)),
 (mI p19 (.ia 4 t17 t18)),
 (mI p20 (.lda 4 t19)),
 (.loc p5 [(.int .i64 (.ofNat 0)), (.int .i64 (.ofNat 0)), .nils, (.int .i64 (.ofNat 0))]),
 (.mk none none (.st 4 t5 t20))])
 (.seq (.reg [(mI p21 (.mv t3)),
 (mI p22 (.mv t3)),
 (mI p23 (.nc t22)),
 (mI p24 (.fa 4 t23)),
 (mI p25 (.ld t24)),
 (mI p26 (.mv t4)),
 (mI p27 (.sla 4 t25 none (some t26) none)),
 (mI p28 (.nc t21)),
 (mI p29 (.fa 4 t28)),
 (.mk none none (.st 1 t29 t27))])
 (.seq (.reg [(mI p30 (.lda 4 t5)),
 (.mk none none (.st 4 t2 t30))])
 .ret))))))
 [(.cell p2 (some 4))]
def ls94 : List Nat := [2, 5]

/- (*delver/walk.sim).worked -/
def f97 : Fd := .mk [p0, p1, p2]
 (.seq (.reg [(.loc p6 [(.int .i64 (.ofNat 0)), (.int .i64 (.ofNat 0)), .nils])])
 (.seq (.seq (.reg [(mI p7 (.mv t2)),
 (mI p8 (.not t7))])
 (.cond t8 .bad .skip))
 (.seq (.reg [(mI p12 (.mv t0)),
 (mI p13 (.mv t1)),
 (mI p14 (.call p90 [t13])),
 (mI p15 (.call p93 [t12, t14])),
 (mI p16 (.call p92 [t15])),
 (.mk none none (.st 3 t6 t16))])
 .ret)))
 [(.cell p6 (some 3))]
def ls97 : List Nat := [6]

/- delver/walk.works -/
def f98 : Fd := .mk [p0, p1, p2]
 (.seq (.reg [(mI p6 (.mv (.c (.int .i64 (.ofNat 0))))),
 (mI p7 (.mv (.c (.bool false))))])
 (.seq (.seq (.reg [(mI p8 (.mv t0))])
 (.block 0 (.seq (.reg [(mI p10 (.bin .eq t8 (.c (.int .i64 (.ofNat 8))))),
 (mI p9 (.mv t10))])
 (.cond t9 (.seq (.reg [(mI p11 (.mv t1)),
 (mI p12 (.mv t2)),
 (mI p13 (.call p165 [t11, t12])),
 (mI p14 (.ex t13 0)),
 (mI p15 (.ex t13 1)),
 (mI p6 (.mv t14)),
 (mI p7 (.mv t15))])
 .ret) .bad))))
 .bad))
 [(.t p6), (.t p7)]
def ls98 : List Nat := []

/- (*delver/walk.sim).last -/
def f100 : Fd := .mk [p0]
 (.seq (.reg [(mI p2 (.mv (.c .nilp)))])
 (.seq (.drw [(.mk true [p0] [p3] true (mI p3 (.mv t0))),
 (.mk true [p3] [p4] true (mI p4 (.nc t3))),
 (.mk true [p4] [p5] true (mI p5 (.fa 1 t4))),
 (.mk true [p5] [p6] true (mI p6 (.fa 8 t5))),
 (.mk true [p6] [p7] true (mI p7 (.ld t6))),
 (.mk true [p0] [p8] true (mI p8 (.mv t0))),
 (.mk true [p8] [p9] true (mI p9 (.nc t8))),
 (.mk true [p9] [p10] true (mI p10 (.fa 1 t9))),
 (.mk true [p10] [p11] true (mI p11 (.fa 8 t10))),
 (.mk true [p11] [p12] true (mI p12 (.ld t11))),
 (.mk true [p12] [p13] true (mI p13 (.len t12))),
 (.mk true [p13] [p14] true (mI p14 (.bin .sub t13 (.c (.int .i64 (.ofNat 1)))))),
 (.mk true [p7, p14] [p15] true (mI p15 (.ia 5 t7 t14))),
 (.mk true [p15] [p2] true (mI p2 (.mv t15)))])
 .ret))
 [(.t p2)]
def ls100 : List Nat := []

/- (*delver/walk.sim).push -/
def f101 : Fd := .mk [p0, p1]
 (.seq (.reg [(.locb p3 t1)])
 (.seq (.reg [(mI p5 (.mv t0)),
 (mI p6 (.call p100 [t5])),
 (mI p4 (.mv t6))])
 (.drw [(.mk true [p4] [p7] true (mI p7 (.mv t4))),
 (.mk true [p4] [p8] true (mI p8 (.mv t4))),
 (.mk true [p8] [p9] true (mI p9 (.nc t8))),
 (.mk true [p9] [p10] true (mI p10 (.fa 4 t9))),
 (.mk true [p10] [p11] true (mI p11 (.ld t10))),
 (.mk true [p3] [p12] true (mI p12 (.vla 4 t3))),
 (.mk true [p12] [p13] true (mI p13 (.bsl 1 4 [(.int .i64 (.ofNat 0)), (.int .i64 (.ofNat 0)), .nils, (.int .i64 (.ofNat 0))] [(0, 4, t12)]))),
 (.mk true [p11, p13] [p14] false (mI p14 (.app 4 48 t11 t13))),
 (.mk true [p7] [p15] true (mI p15 (.nc t7))),
 (.mk true [p15] [p16] true (mI p16 (.fa 4 t15))),
 (.mk true [p16, p14] [] false (.mk none none (.st 1 t16 t14)))])))
 []
def ls101 : List Nat := [3]

/- delver/walk.null -/
def f102 : Fd := .mk []
 (.seq (.reg [(.loc p0 [(.int .i64 (.ofNat 0)), (.int .i64 (.ofNat 0)), .nils, (.int .i64 (.ofNat 0))])])
 (.seq (.reg [(mI p1 (.bld [(.int .i64 (.ofNat 0)), (.int .i64 (.ofNat 0)), .nils, (.int .i64 (.ofNat 0))] [(0, 1, (.c (.int .i64 (.ofNat 2))))])),
 (.mk none none (.st 4 t0 t1))])
 .ret))
 [(.cell p0 (some 4))]
def ls102 : List Nat := [0]

/- (*delver/walk.sim).on -/
def f103 : Fd := .mk [p0]
 (.seq (.reg [(mI p2 (.mv (.c .nilp)))])
 (.seq (.reg [(mI p3 (.mv t0)),
 (mI p4 (.call p100 [t3])),
 (mI p5 (.nc t4)),
 (mI p6 (.fa 2 t5)),
 (mI p7 (.ld t6)),
 (mI p8 (.bin .add t7 (.c (.int .i64 (.ofNat 1))))),
 (mI p9 (.nc t4)),
 (mI p10 (.fa 2 t9)),
 (.mk none none (.st 1 t10 t8))])
 (.seq (.reg [(mI p11 (.mv t0)),
 (mI p2 (.mv t11))])
 .ret)))
 [(.t p2)]
def ls103 : List Nat := []

/- (*delver/walk.sim).back -/
def f120 : Fd := .mk [p0, p1, p2]
 (.seq (.reg [(.locb p4 t1),
 (.loc p6 [(.int .i64 (.ofNat 0)), (.int .i64 (.ofNat 0)), .nils])])
 (.seq (.drw [(.mk true [p0] [p7] true (mI p7 (.mv t0))),
 (.mk true [p0] [p8] true (mI p8 (.mv t0))),
 (.mk true [p8] [p9] true (mI p9 (.nc t8))),
 (.mk true [p9] [p10] true (mI p10 (.fa 1 t9))),
 (.mk true [p10] [p11] true (mI p11 (.fa 8 t10))),
 (.mk true [p11] [p12] true (mI p12 (.ld t11))),
 (.mk true [p0] [p13] true (mI p13 (.mv t0))),
 (.mk true [p13] [p14] true (mI p14 (.nc t13))),
 (.mk true [p14] [p15] true (mI p15 (.fa 1 t14))),
 (.mk true [p15] [p16] true (mI p16 (.fa 8 t15))),
 (.mk true [p16] [p17] true (mI p17 (.ld t16))),
 (.mk true [p17] [p18] true (mI p18 (.len t17))),
 (.mk true [p18] [p19] true (mI p19 (.bin .sub t18 (.c (.int .i64 (.ofNat 1)))))),
 (.mk true [p12, p19] [p20] true (mI p20 (.sla 5 t12 none (some t19) none))),
 (.mk true [p7] [p21] true (mI p21 (.nc t7))),
 (.mk true [p21] [p22] true (mI p22 (.fa 1 t21))),
 (.mk true [p22] [p23] true (mI p23 (.fa 8 t22))),
 (.mk true [p23, p20] [] false (.mk none none (.st 1 t23 t20)))])
 (.seq (.seq (.reg [(mI p24 (.mv t0)),
 (mI p25 (.nc t24)),
 (mI p26 (.fa 1 t25)),
 (mI p27 (.fa 8 t26)),
 (mI p28 (.ld t27)),
 (mI p29 (.len t28)),
 (mI p30 (.bin .eq t29 (.c (.int .i64 (.ofNat 0)))))])
 (.cond t30 (.seq (.drw [(.mk true [p0] [p31] true (mI p31 (.mv t0))),
 (.mk true [p0] [p32] true (mI p32 (.mv t0))),
 (.mk true [p0] [p33] true (mI p33 (.mv t0))),
 (.mk true [p4] [p34] true (mI p34 (.vla 4 t4))),
 (.mk true [p31] [p35] true (mI p35 (.nc t31))),
 (.mk true [p35] [p36] true (mI p36 (.fa 1 t35))),
 (.mk true [p36] [p37] true (mI p37 (.fa 8 t36))),
 (.mk true [p37] [] false (.mk none none (.st 1 t37 (.c .nils)))),
 (.mk true [p32] [p38] true (mI p38 (.nc t32))),
 (.mk true [p38] [p39] true (mI p39 (.fa 1 t38))),
 (.mk true [p39] [p40] true (mI p40 (.fa 10 t39))),
 (.mk true [p40] [] false (.mk none none (.st 1 t40 (.c (.int .i64 (.ofNat 1)))))),
 (.mk true [p33] [p41] true (mI p41 (.nc t33))),
 (.mk true [p41] [p42] true (mI p42 (.fa 1 t41))),
 (.mk true [p42] [p43] true (mI p43 (.fa 11 t42))),
 (.mk true [p43, p34] [] false (.mk none none (.st 4 t43 t34)))])
 (.seq (.reg [(mI p44 (.mv t0)),
 (mI p45 (.call p92 [t44])),
 (.mk none none (.st 3 t6 t45))])
 .ret)) .bad))
 .bad)))
 [(.cell p6 (some 3))]
def ls120 : List Nat := [4, 6]

/- delver/show.Check -/
def f129 : Fd := .mk [p0]
 (.seq (.reg [(.locb p1 t0),
 (mI p2 (.mv (.c (.int .i64 (.ofNat 0)))))])
 (.seq (.seq (.reg [(mI p3 (.fa 0 t1)),
 (mI p4 (.ld t3)),
 (mI p5 (.call p203 [t4, (.c (.int .i64 (.ofNat 10))), (.c (.fn p204 []))])),
 (mI p6 (.not t5))])
 (.cond t6 .bad .skip))
 (.seq (.reg [(mI p2 (.mv (.c (.int .i64 (.ofNat 0)))))])
 .ret)))
 [(.t p2)]
def ls129 : List Nat := [1]

/- delver/hier.always -/
def f130 : Fd := .mk []
 (.seq (.reg [(mI p0 (.mv (.c .nils)))])
 (.seq (.reg [(mI p4 (.bld [(.str 0 0), (.bool false), (.str 0 0), .nils, .nils, .nils] [(0, 1, (.c (.str 6 127970252055119)))])),
 (mI p5 (.bld [(.str 0 0), (.bool false), (.str 0 0), .nils, .nils, .nils] [(0, 1, (.c (.str 5 491496043077))), (2, 1, (.c (.str 6 127970252055119)))])),
 (mI p6 (.bsl 2 6 [(.str 0 0), (.bool false), (.str 0 0), .nils, .nils, .nils, (.str 0 0), (.bool false), (.str 0 0), .nils, .nils, .nils] [(0, 6, t4), (6, 6, t5)])),
 (mI p1 (.mv t6))])
 (.seq (.seq (.reg [(mI p7 (.call p205 [(.c (.str 60 1395462331823132423355784782285018556031333839734033348357414400956683060530112689693800106032862311113578504873383016344881700030002262023370062))])),
 (mI p8 (.len t7)),
 (mI p9 (.mv (.c (.int .i64 (.ofNat 0)))))])
 (.block 0 (.loop [p1, p7, p8, p9] (.seq (.reg [(mI p10 (.bin .lt t9 t8))])
 (.seq (.cond t10 .skip (.exit 0))
 (.seq (.block 1 (.seq (.reg [(mI p11 (.ia 1 t7 t9)),
 (mI p12 (.ld t11)),
 (mI p3 (.mv t12))])
 (.reg [(mI p13 (.mv t1)),
 (mI p14 (.mv t3)),
 (mI p15 (.bld [(.str 0 0), (.bool false), (.str 0 0), .nils, .nils, .nils] [(0, 1, t14), (2, 1, (.c (.str 5 491496043077)))])),
 (mI p16 (.bsl 1 6 [(.str 0 0), (.bool false), (.str 0 0), .nils, .nils, .nils] [(0, 6, t15)])),
 (mI p17 (.app 6 112 t13 t16)),
 (mI p1 (.mv t17))])))
 (.reg [(mI p18 (.bin .add t9 (.c (.int .i64 (.ofNat 1))))),
 (mI p9 (.mv t18))])))))))
 (.seq (.reg [(mI p19 (.mv t1)),
 (mI p0 (.mv t19))])
 .ret))))
 [(.t p0)]
def ls130 : List Nat := []

/- slices.ContainsFunc[[]delver/api.Class,delver/api.Class] -/
def f131 : Fd := .mk [p0, p1]
 (.seq (.reg [(mI p4 (.mv (.c (.bool false))))])
 (.seq (.reg [(mI p5 (.mv t0)),
 (mI p6 (.mv t1)),
 (mI p7 (.call p206 [t5, t6])),
 (mI p8 (.bin .ge t7 (.c (.int .i64 (.ofNat 0))))),
 (mI p4 (.mv t8))])
 .ret))
 [(.t p4)]
def ls131 : List Nat := []

/- (*delver/hier.Tree).lost -/
def f132 : Fd := .mk [p0, p1]
 (.seq (.reg [(mI p2 (.bx t0)),
 (.locb p3 t1),
 (mI p4 (.mv (.c (.bool false))))])
 (.seq (.seq (.reg [(mI p10 (.ld t2)),
 (mI p11 (.lda 6 t3)),
 (mI p12 (.call p207 [t10, t11])),
 (mI p9 (.mv t12)),
 (mI p13 (.ex t9 0)),
 (mI p14 (.ex t9 1)),
 (mI p5 (.mv t13)),
 (mI p6 (.mv t14))])
 (.seq (.reg [(mI p15 (.mv t6))])
 (.cond t15 (.seq (.reg [(mI p17 (.ld t2)),
 (mI p18 (.nc t17)),
 (mI p19 (.fa 3 t18)),
 (mI p20 (.ld t19)),
 (mI p21 (.mv t5)),
 (mI p22 (.mm (.mlk false [2] [(.str 0 0), (.bool false), (.str 0 0), .nils, .nils, .nils] true true) [t20, t21])),
 (mI p16 (.mv t22)),
 (mI p23 (.ex t16 0)),
 (mI p24 (.ex t16 1)),
 (.loc p7 [(.str 0 0), (.bool false), (.str 0 0), .nils, .nils, .nils]),
 (.mk none none (.st 6 t7 t23)),
 (mI p8 (.mv t24))])
 (.seq (.reg [(mI p25 (.mv t8)),
 (mI p26 (.not t25)),
 (mI p27 (.mv t26)),
 (.mk (some p28) (some (p27, false)) (.fa 1 t7)),
 (.mk (some p29) (some (p27, false)) (.ld t28)),
 (mI p30 (.pick t27 (.c (.bool true)) t29))])
 (.cond t30 .bad .skip))) .skip)))
 (.seq (.reg [(mI p31 (.fa 3 t3)),
 (mI p32 (.ld t31)),
 (mI p33 (.mfn p208 [t2])),
 (mI p34 (.call p133 [t32, t33])),
 (mI p4 (.mv t34))])
 .ret)))
 [(.t p4)]
def ls132 : List Nat := [3, 7]

/- slices.ContainsFunc[[]string,string] -/
def f133 : Fd := .mk [p0, p1]
 (.seq (.reg [(mI p4 (.mv (.c (.bool false))))])
 (.seq (.reg [(mI p5 (.mv t0)),
 (mI p6 (.mv t1)),
 (mI p7 (.call p209 [t5, t6])),
 (mI p8 (.bin .ge t7 (.c (.int .i64 (.ofNat 0))))),
 (mI p4 (.mv t8))])
 .ret))
 [(.t p4)]
def ls133 : List Nat := []

/- (*delver/hier.Tree).ring -/
def f134 : Fd := .mk [p0, p1]
 (.seq (.reg [(mI p4 (.mv (.c (.bool false))))])
 (.seq (.reg [(mI p8 (.mm .mmk [])),
 (mI p5 (.mv t8))])
 (.seq (.seq (.reg [(mI p9 (.mv t0)),
 (mI p10 (.mv t1)),
 (mI p11 (.call p210 [t9, t10])),
 (mI p12 (.len t11)),
 (mI p13 (.mv (.c (.int .i64 (.ofNat 0)))))])
 (.block 0 (.loop [p0, p1, p5, p11, p12, p13] (.seq (.reg [(mI p14 (.bin .lt t13 t12))])
 (.seq (.cond t14 .skip (.exit 0))
 (.seq (.block 1 (.seq (.reg [(mI p15 (.ia 1 t11 t13)),
 (mI p16 (.ld t15)),
 (mI p7 (.mv t16))])
 (.seq (.reg [(mI p17 (.mv t5)),
 (mI p18 (.mv t7)),
 (mI p19 (.mm (.mlk false [2] [(.bool false)] false false) [t17, t18])),
 (mI p20 (.not t19))])
 (.cond t20 (.reg [(mI p21 (.mv t0)),
 (mI p22 (.mv t7)),
 (mI p23 (.mv t5)),
 (mI p24 (.call p135 [t21, t22, t23]))]) .bad))))
 (.reg [(mI p25 (.bin .add t13 (.c (.int .i64 (.ofNat 1))))),
 (mI p13 (.mv t25))])))))))
 (.seq (.reg [(mI p26 (.mv t5)),
 (mI p27 (.mv t1)),
 (mI p28 (.mm (.mlk false [2] [(.bool false)] false false) [t26, t27])),
 (mI p4 (.mv t28))])
 .ret))))
 [(.t p4)]
def ls134 : List Nat := []

/- (*delver/hier.Tree).climb -/
def f135 : Fd := .mk [p0, p1, p2]
 (.seq (.reg [(mI p8 (.mv t2)),
 (mI p9 (.mv t1)),
 (.mk none none (.mm (.mup false [2]) [t8, t9, (.c (.bool true))]))])
 (.seq (.reg [(mI p10 (.mv t0)),
 (mI p11 (.mv t1)),
 (mI p12 (.call p210 [t10, t11])),
 (mI p13 (.len t12)),
 (mI p14 (.mv (.c (.int .i64 (.ofNat 0)))))])
 (.block 0 (.loop [p0, p2, p12, p13, p14] (.seq (.reg [(mI p15 (.bin .lt t14 t13))])
 (.seq (.cond t15 .skip (.exit 0))
 (.seq (.block 1 (.seq (.reg [(mI p16 (.ia 1 t12 t14)),
 (mI p17 (.ld t16)),
 (mI p7 (.mv t17))])
 (.seq (.reg [(mI p18 (.mv t2)),
 (mI p19 (.mv t7)),
 (mI p20 (.mm (.mlk false [2] [(.bool false)] false false) [t18, t19])),
 (mI p21 (.not t20))])
 (.cond t21 (.reg [(mI p22 (.mv t0)),
 (mI p23 (.mv t7)),
 (mI p24 (.mv t2)),
 (mI p25 (.call p135 [t22, t23, t24]))]) .skip))))
 (.reg [(mI p26 (.bin .add t14 (.c (.int .i64 (.ofNat 1))))),
 (mI p14 (.mv t26))]))))))))
 []
def ls135 : List Nat := []

/- (*delver/hier.Tree).Super -/
def f136 : Fd := .mk [p0, p1]
 (.seq (.reg [(mI p4 (.mv (.c (.str 0 0)))),
 (mI p5 (.mv (.c (.bool false))))])
 (.seq (.reg [(mI p9 (.mv t0)),
 (mI p10 (.mv t1)),
 (mI p11 (.call p45 [t9, t10])),
 (mI p8 (.mv t11)),
 (mI p12 (.ex t8 0)),
 (mI p13 (.ex t8 1)),
 (.loc p6 [(.str 0 0), (.bool false), (.str 0 0), .nils, .nils, .nils]),
 (.mk none none (.st 6 t6 t12)),
 (mI p7 (.mv t13))])
 (.seq (.seq (.reg [(mI p14 (.mv t7)),
 (mI p15 (.not t14))])
 (.cond t15 .bad .skip))
 (.seq (.reg [(mI p16 (.mv t0)),
 (mI p17 (.lda 6 t6)),
 (mI p18 (.call p207 [t16, t17])),
 (mI p19 (.ex t18 0)),
 (mI p20 (.ex t18 1)),
 (mI p4 (.mv t19)),
 (mI p5 (.mv t20))])
 .ret))))
 [(.t p4), (.t p5)]
def ls136 : List Nat := [6]

/- slices.Backward[[]string,string] -/
def f137 : Fd := .mk [p0]
 (.seq (.reg [(mI p1 (.bx t0)),
 (mI p2 (.mv (.c .nilf)))])
 (.seq (.reg [(mI p3 (.mfn p211 [t1])),
 (mI p2 (.mv t3))])
 .ret))
 [(.t p2)]
def ls137 : List Nat := []

/- slices.Backward[[]delver/api.Method,delver/api.Method] -/
def f138 : Fd := .mk [p0]
 (.seq (.reg [(mI p1 (.bx t0)),
 (mI p2 (.mv (.c .nilf)))])
 (.seq (.reg [(mI p3 (.mfn p212 [t1])),
 (mI p2 (.mv t3))])
 .ret))
 [(.t p2)]
def ls138 : List Nat := []

/- slices.ContainsFunc[[]delver/api.Type,delver/api.Type] -/
def f139 : Fd := .mk [p0, p1]
 (.seq (.reg [(mI p4 (.mv (.c (.bool false))))])
 (.seq (.reg [(mI p5 (.mv t0)),
 (mI p6 (.mv t1)),
 (mI p7 (.call p213 [t5, t6])),
 (mI p8 (.bin .ge t7 (.c (.int .i64 (.ofNat 0))))),
 (mI p4 (.mv t8))])
 .ret))
 [(.t p4)]
def ls139 : List Nat := []

/- (*delver/layout.Table).alone$1 -/
def f140 : Fd := .mk [p0]
 (.seq (.reg [(.locb p1 t0),
 (mI p2 (.mv (.c (.bool false))))])
 (.seq (.reg [(mI p3 (.fa 0 t1)),
 (mI p4 (.ld t3)),
 (mI p5 (.bin .eq t4 (.c (.int .i64 (.ofNat 1))))),
 (mI p2 (.mv t5))])
 .ret))
 [(.t p2)]
def ls140 : List Nat := [1]

/- delver/layout.twice -/
def f141 : Fd := .mk [p0]
 (.seq (.reg [(mI p2 (.mv (.c (.bool false))))])
 (.seq (.reg [(mI p3 (.mv t0)),
 (mI p4 (.call p214 [t3]))])
 (.seq (.reg [(mI p5 (.mv t0)),
 (mI p6 (.call p215 [t5])),
 (mI p7 (.len t6)),
 (mI p8 (.mv t0)),
 (mI p9 (.len t8)),
 (mI p10 (.bin .lt t7 t9)),
 (mI p2 (.mv t10))])
 .ret)))
 [(.t p2)]
def ls141 : List Nat := []

/- (*delver/layout.Table).unknown -/
def f142 : Fd := .mk [p0, p1]
 (.seq (.reg [(.locb p3 t1),
 (mI p4 (.mv (.c (.bool false))))])
 (.seq (.drw [(.mk true [p0] [p8] true (mI p8 (.mv t0))),
 (.mk true [p8] [p9] true (mI p9 (.nc t8))),
 (.mk true [p9] [p10] true (mI p10 (.fa 4 t9))),
 (.mk true [p10] [p11] true (mI p11 (.ld t10))),
 (.mk true [p3] [p12] true (mI p12 (.fa 1 t3))),
 (.mk true [p3, p12] [p13] true (mI p13 (.vla 0 t12))),
 (.mk true [p11, p13] [p14] true (mI p14 (.call p45 [t11, t13]))),
 (.mk true [p14] [p7] true (mI p7 (.mv t14))),
 (.mk true [p7] [p15] true (mI p15 (.ex t7 0))),
 (.mk true [p7] [p16] true (mI p16 (.ex t7 1))),
 (.mk true [p5] [p5] true (.loc p5 [(.str 0 0), (.bool false), (.str 0 0), .nils, .nils, .nils])),
 (.mk true [p5, p15] [p5] true (.mk none none (.st 6 t5 t15))),
 (.mk true [p16] [p6] true (mI p6 (.mv t16)))])
 (.seq (.reg [(mI p17 (.fa 1 t3)),
 (mI p18 (.ld t17)),
 (mI p19 (.px (.seq true) [t18, (.c (.str 0 0))])),
 (mI p20 (.mv t19)),
 (.mk (some p21) (some (p20, true)) (.mv t6)),
 (.mk (some p22) (some (p20, true)) (.not t21)),
 (mI p23 (.pick t20 t22 (.c (.bool false)))),
 (mI p4 (.mv t23))])
 .ret)))
 [(.t p4)]
def ls142 : List Nat := [3, 5]

/- slices.ContainsFunc[[]delver/api.Slot,delver/api.Slot] -/
def f143 : Fd := .mk [p0, p1]
 (.seq (.reg [(mI p4 (.mv (.c (.bool false))))])
 (.seq (.reg [(mI p5 (.mv t0)),
 (mI p6 (.mv t1)),
 (mI p7 (.call p176 [t5, t6])),
 (mI p8 (.bin .ge t7 (.c (.int .i64 (.ofNat 0))))),
 (mI p4 (.mv t8))])
 .ret))
 [(.t p4)]
def ls143 : List Nat := []

/- delver/flow.begin -/
def f146 : Fd := .mk [p0, p1]
 (.seq (.reg [(.locb p3 t1),
 (.loc p4 [(.bool false), .nils, .nils]),
 (mI p5 (.mv (.c (.bool false))))])
 (.seq (.reg [(mI p8 (.bld [(.bool false), .nils, .nils] [(0, 1, (.c (.bool true)))])),
 (.loc p6 [(.bool false), .nils, .nils]),
 (.mk none none (.st 3 t6 t8))])
 (.seq (.seq (.reg [(mI p9 (.fa 1 t3)),
 (mI p10 (.ld t9)),
 (mI p11 (.not t10))])
 (.cond t11 .bad .skip))
 (.seq (.reg [(mI p19 (.fa 1 t6)),
 (mI p20 (.ld t19)),
 (mI p21 (.fa 3 t3)),
 (mI p22 (.ld t21)),
 (mI p23 (.app 2 24 t20 t22)),
 (mI p24 (.fa 1 t6)),
 (.mk none none (.st 1 t24 t23))])
 (.seq (.reg [(mI p25 (.fa 1 t6)),
 (mI p26 (.ld t25)),
 (mI p27 (.len t26)),
 (mI p7 (.mv t27))])
 (.seq (.block 0 (.loop [p3, p4, p6, p7] (.seq (.seq (.reg [(mI p28 (.fa 1 t6)),
 (mI p29 (.ld t28)),
 (mI p30 (.len t29)),
 (mI p31 (.fa 6 t3)),
 (mI p32 (.ld t31)),
 (mI p33 (.bin .lt t30 t32))])
 (.cond t33 .bad (.exit 0)))
 .bad)))
 (.seq (.drw [(.mk true [p6] [p40] true (mI p40 (.vla 3 t6))),
 (.mk true [p7] [p41] true (mI p41 (.mv t7))),
 (.mk true [p3] [p42] true (mI p42 (.fa 6 t3))),
 (.mk true [p3, p42] [p43] true (mI p43 (.vla 0 t42))),
 (.mk true [p41, p43] [p44] true (mI p44 (.bin .le t41 t43))),
 (.mk true [p4, p40] [p4] true (.mk none none (.st 3 t4 t40))),
 (.mk true [p44] [p5] true (mI p5 (.mv t44)))])
 .ret)))))))
 [(.cell p4 (some 3)), (.t p5)]
def ls146 : List Nat := [3, 4, 6]

/- (*delver/flow.walk).catches -/
def f147 : Fd := .mk [p0]
 (.seq (.reg [(mI p2 (.mv (.c (.int .i64 (.ofNat 0)))))])
 (.seq (.reg [(mI p8 (.mv t0)),
 (mI p9 (.nc t8)),
 (mI p10 (.fa 1 t9)),
 (mI p11 (.fa 7 t10)),
 (mI p12 (.ld t11)),
 (mI p13 (.len t12)),
 (mI p3 (.mv t13))])
 (.seq (.seq (.reg [(mI p14 (.mv t0)),
 (mI p15 (.nc t14)),
 (mI p16 (.fa 1 t15)),
 (mI p17 (.fa 8 t16)),
 (mI p18 (.ld t17)),
 (mI p19 (.len t18)),
 (mI p20 (.mv (.c (.int .i64 (.ofNat 0)))))])
 (.block 0 (.loop [p0, p3, p18, p19, p20] (.seq (.reg [(mI p21 (.bin .lt t20 t19))])
 (.seq (.cond t21 .bad (.exit 0))
 .bad)))))
 (.seq (.reg [(mI p2 (.mv (.c (.int .i64 (.ofNat 0)))))])
 .ret))))
 [(.t p2)]
def ls147 : List Nat := [5, 6]

/- slices.Index[[]bool,bool] -/
def f148 : Fd := .mk [p0, p1]
 (.seq (.reg [(mI p4 (.mv (.c (.int .i64 (.ofNat 0)))))])
 (.seq (.seq (.reg [(mI p6 (.mv t0)),
 (mI p7 (.len t6)),
 (mI p8 (.mv (.c (.int .i64 (.ofNat 0)))))])
 (.block 0 (.loop [p0, p1, p7, p8] (.seq (.reg [(mI p9 (.bin .lt t8 t7))])
 (.seq (.cond t9 .skip (.exit 0))
 (.seq (.block 1 (.seq (.reg [(mI p10 (.mv t8)),
 (mI p5 (.mv t10))])
 (.seq (.reg [(mI p11 (.mv t1)),
 (mI p12 (.mv t0)),
 (mI p13 (.mv t5)),
 (mI p14 (.ia 1 t12 t13)),
 (mI p15 (.ld t14)),
 (mI p16 (.beq false t11 t15))])
 (.cond t16 (.seq (.reg [(mI p17 (.mv t5)),
 (mI p4 (.mv t17))])
 .ret) .skip))))
 (.reg [(mI p18 (.bin .add t8 (.c (.int .i64 (.ofNat 1))))),
 (mI p8 (.mv t18))])))))))
 (.seq (.reg [(mI p4 (.mv (.c (.int .i64 (.negSucc 0)))))])
 .ret)))
 [(.t p4)]
def ls148 : List Nat := []

/- (*delver/flow.walk).through -/
def f149 : Fd := .mk [p0, p1]
 (.seq (.reg [(mI p4 (.mv (.c (.int .i64 (.ofNat 0)))))])
 (.seq (.reg [(mI p17 (.mv t0)),
 (mI p18 (.nc t17)),
 (mI p19 (.fa 10 t18)),
 (mI p20 (.ld t19)),
 (mI p21 (.mv t1)),
 (mI p22 (.ia 3 t20 t21)),
 (mI p23 (.lda 3 t22)),
 (.loc p5 [(.bool false), .nils, .nils]),
 (.mk none none (.st 3 t5 t23))])
 (.seq (.reg [(mI p24 (.mv t0)),
 (mI p25 (.nc t24)),
 (mI p26 (.fa 11 t25)),
 (mI p27 (.ld t26)),
 (mI p28 (.mv t1)),
 (mI p29 (.ia 1 t27 t28)),
 (.mk none none (.st 1 t29 (.c (.bool false))))])
 (.seq (.seq (.reg [(mI p30 (.mv t0)),
 (mI p31 (.nc t30)),
 (mI p32 (.fa 1 t31)),
 (mI p33 (.fa 8 t32)),
 (mI p34 (.ld t33)),
 (mI p35 (.len t34)),
 (mI p36 (.mv (.c (.int .i64 (.ofNat 0)))))])
 (.block 0 (.loop [p0, p1, p5, p34, p35, p36] (.seq (.reg [(mI p37 (.bin .lt t36 t35))])
 (.seq (.cond t37 .bad (.exit 0))
 .bad)))))
 (.seq (.drw [(.mk true [p0] [p66] true (mI p66 (.mv t0))),
 (.mk true [p66] [p67] true (mI p67 (.nc t66))),
 (.mk true [p67] [p68] true (mI p68 (.fa 0 t67))),
 (.mk true [p68] [p69] true (mI p69 (.ld t68))),
 (.mk true [p0] [p70] true (mI p70 (.mv t0))),
 (.mk true [p70] [p71] true (mI p71 (.nc t70))),
 (.mk true [p71] [p72] true (mI p72 (.fa 1 t71))),
 (.mk true [p72] [p73] true (mI p73 (.lda 9 t72))),
 (.mk true [p0] [p74] true (mI p74 (.mv t0))),
 (.mk true [p74] [p75] true (mI p75 (.nc t74))),
 (.mk true [p75] [p76] true (mI p76 (.fa 1 t75))),
 (.mk true [p76] [p77] true (mI p77 (.fa 7 t76))),
 (.mk true [p77] [p78] true (mI p78 (.ld t77))),
 (.mk true [p1] [p79] true (mI p79 (.mv t1))),
 (.mk true [p78, p79] [p80] true (mI p80 (.ia 4 t78 t79))),
 (.mk true [p80] [p81] true (mI p81 (.lda 4 t80))),
 (.mk true [p5] [p82] true (mI p82 (.vla 3 t5))),
 (.mk true [p69, p73, p81, p82] [p83] true (mI p83 (.call p218 [t69, t73, t81, t82]))),
 (.mk true [p83] [p65] true (mI p65 (.mv t83))),
 (.mk true [p65] [p84] true (mI p84 (.ex t65 0))),
 (.mk true [p65] [p85] true (mI p85 (.ex t65 1))),
 (.mk true [p9] [p9] true (.loc p9 [(.bool false), .nils, .nils])),
 (.mk true [p9, p84] [p9] true (.mk none none (.st 3 t9 t84))),
 (.mk true [p85] [p10] true (mI p10 (.mv t85)))])
 (.seq (.seq (.reg [(mI p86 (.mv t10)),
 (mI p87 (.bin .ne t86 (.c (.int .i64 (.ofNat 0)))))])
 (.cond t87 .bad .skip))
 (.seq (.reg [(mI p89 (.mv t0)),
 (mI p90 (.nc t89)),
 (mI p91 (.fa 1 t90)),
 (mI p92 (.lda 9 t91)),
 (mI p93 (.mv t1)),
 (mI p94 (.call p219 [t92, t93])),
 (mI p11 (.mv t94))])
 (.seq (.seq (.reg [(mI p95 (.mv t11)),
 (mI p96 (.len t95)),
 (mI p97 (.mv (.c (.int .i64 (.ofNat 0)))))])
 (.block 2 (.loop [p0, p9, p11, p95, p96, p97] (.seq (.reg [(mI p98 (.bin .lt t97 t96))])
 (.seq (.cond t98 .skip (.exit 2))
 (.seq (.block 3 (.seq (.reg [(mI p99 (.ia 1 t95 t97)),
 (mI p100 (.ld t99)),
 (mI p13 (.mv t100))])
 (.seq (.reg [(mI p101 (.mv t13)),
 (mI p102 (.bin .lt t101 (.c (.int .i64 (.ofNat 0))))),
 (mI p103 (.mv t102)),
 (.mk (some p104) (some (p103, false)) (.mv t13)),
 (.mk (some p105) (some (p103, false)) (.mv t0)),
 (.mk (some p106) (some (p103, false)) (.nc t105)),
 (.mk (some p107) (some (p103, false)) (.fa 1 t106)),
 (.mk (some p108) (some (p103, false)) (.fa 7 t107)),
 (.mk (some p109) (some (p103, false)) (.ld t108)),
 (.mk (some p110) (some (p103, false)) (.len t109)),
 (.mk (some p111) (some (p103, false)) (.bin .ge t104 t110)),
 (mI p112 (.pick t103 (.c (.bool true)) t111))])
 (.cond t112 .bad .skip))))
 (.reg [(mI p113 (.bin .add t97 (.c (.int .i64 (.ofNat 1))))),
 (mI p97 (.mv t113))])))))))
 (.seq (.seq (.reg [(mI p114 (.mv t11)),
 (mI p115 (.len t114)),
 (mI p116 (.mv (.c (.int .i64 (.ofNat 0)))))])
 (.block 4 (.loop [p0, p9, p114, p115, p116] (.seq (.reg [(mI p117 (.bin .lt t116 t115))])
 (.seq (.cond t117 .skip (.exit 4))
 (.seq (.block 5 (.seq (.reg [(mI p118 (.ia 1 t114 t116)),
 (mI p119 (.ld t118)),
 (mI p15 (.mv t119))])
 (.seq (.reg [(mI p120 (.mv t0)),
 (mI p121 (.mv t15)),
 (mI p122 (.lda 3 t9)),
 (mI p123 (.call p217 [t120, t121, t122])),
 (mI p16 (.mv t123))])
 (.seq (.reg [(mI p124 (.mv t16)),
 (mI p125 (.bin .ne t124 (.c (.int .i64 (.ofNat 0)))))])
 (.cond t125 .bad .skip)))))
 (.reg [(mI p127 (.bin .add t116 (.c (.int .i64 (.ofNat 1))))),
 (mI p116 (.mv t127))])))))))
 (.seq (.reg [(mI p4 (.mv (.c (.int .i64 (.ofNat 0)))))])
 .ret))))))))))
 [(.t p4)]
def ls149 : List Nat := [5, 7, 9]

/- slices.Clone[[]delver/api.SymObj,delver/api.SymObj] -/
def f150 : Fd := .mk [p0]
 (.seq (.reg [(mI p2 (.mv (.c .nils)))])
 (.seq (.seq (.reg [(mI p3 (.mv t0)),
 (mI p4 (.isnil false t3))])
 (.cond t4 (.seq (.reg [(mI p2 (.mv (.c .nils)))])
 .ret) .skip))
 (.seq (.reg [(mI p5 (.bsl 0 4 [] [])),
 (mI p6 (.mv t0)),
 (mI p7 (.app 4 56 t5 t6)),
 (mI p2 (.mv t7))])
 .ret)))
 [(.t p2)]
def ls150 : List Nat := []

/- slices.Clone[[]delver/api.Sym,delver/api.Sym] -/
def f151 : Fd := .mk [p0]
 (.seq (.reg [(mI p2 (.mv (.c .nils)))])
 (.seq (.seq (.reg [(mI p3 (.mv t0)),
 (mI p4 (.isnil false t3))])
 (.cond t4 (.seq (.reg [(mI p2 (.mv (.c .nils)))])
 .ret) .skip))
 (.seq (.reg [(mI p5 (.bsl 0 4 [] [])),
 (mI p6 (.mv t0)),
 (mI p7 (.app 4 48 t5 t6)),
 (mI p2 (.mv t7))])
 .ret)))
 [(.t p2)]
def ls151 : List Nat := []

/- (*delver/walk.sim).more -/
def f152 : Fd := .mk [p0, p1]
 (.seq (.reg [(.locb p3 t1),
 (mI p4 (.mv (.c (.int .i64 (.ofNat 0))))),
 (mI p5 (.mv (.c (.bool false))))])
 (.seq (.drw [(.mk true [p0] [p10] true (mI p10 (.mv t0))),
 (.mk true [p10] [p11] true (mI p11 (.nc t10))),
 (.mk true [p11] [p12] true (mI p12 (.fa 1 t11))),
 (.mk true [p12] [p13] true (mI p13 (.fa 0 t12))),
 (.mk true [p13] [p14] true (mI p14 (.lda 2 t13))),
 (.mk true [p0] [p15] true (mI p15 (.mv t0))),
 (.mk true [p15] [p16] true (mI p16 (.nc t15))),
 (.mk true [p16] [p17] true (mI p17 (.fa 1 t16))),
 (.mk true [p17] [p18] true (mI p18 (.fa 2 t17))),
 (.mk true [p18] [p19] true (mI p19 (.ld t18))),
 (.mk true [p3] [p20] true (mI p20 (.fa 2 t3))),
 (.mk true [p3, p20] [p21] true (mI p21 (.vla 2 t20))),
 (.mk true [p0] [p22] true (mI p22 (.mv t0))),
 (.mk true [p22] [p23] true (mI p23 (.nc t22))),
 (.mk true [p23] [p24] true (mI p24 (.fa 0 t23))),
 (.mk true [p24] [p25] true (mI p25 (.ld t24))),
 (.mk true [p25] [p26] true (mI p26 (.nc t25))),
 (.mk true [p26] [p27] true (mI p27 (.fa 0 t26))),
 (.mk true [p27] [p28] true (mI p28 (.ld t27))),
 (.mk true [p3] [p29] true (mI p29 (.vla 4 t3))),
 (.mk true [p28, p29] [p30] true (mI p30 (.call p221 [t28, t29]))),
 (.mk true [p14, p19, p21, p30] [p31] true (mI p31 (.call p220 [t14, t19, t21, t30]))),
 (.mk true [p31] [p9] true (mI p9 (.mv t31))),
 (.mk true [p9] [p32] true (mI p32 (.ex t9 0))),
 (.mk true [p9] [p33] true (mI p33 (.ex t9 1))),
 (.mk true [p9] [p34] true (mI p34 (.ex t9 2))),
 (.mk true [p6] [p6] true (.loc p6 [.nils, .nils])),
 (.mk true [p6, p32] [p6] true (.mk none none (.st 2 t6 t32))),
 (.mk true [p33] [p7] true (mI p7 (.mv t33))),
 (.mk true [p34] [p8] true (mI p8 (.mv t34)))])
 (.seq (.seq (.reg [(mI p35 (.mv t8)),
 (mI p36 (.bin .ne t35 (.c (.int .i64 (.ofNat 0)))))])
 (.cond t36 .bad .skip))
 (.seq (.reg [(mI p37 (.mv t0)),
 (mI p38 (.mv t0)),
 (mI p39 (.lda 2 t6)),
 (mI p40 (.mv t7)),
 (mI p41 (.nc t37)),
 (mI p42 (.fa 1 t41)),
 (mI p43 (.fa 0 t42)),
 (.mk none none (.st 2 t43 t39)),
 (mI p44 (.nc t38)),
 (mI p45 (.fa 1 t44)),
 (mI p46 (.fa 2 t45)),
 (.mk none none (.st 1 t46 t40))])
 (.seq (.reg [(mI p47 (.fa 1 t6)),
 (mI p48 (.ld t47)),
 (mI p49 (.len t48)),
 (mI p50 (.bin .sub t49 (.c (.int .i64 (.ofNat 1))))),
 (mI p4 (.mv t50)),
 (mI p5 (.mv (.c (.bool true))))])
 .ret)))))
 [(.t p4), (.t p5)]
def ls152 : List Nat := [3, 6]

/- delver/open.Check -/
def f153 : Fd := .mk [p0, p1]
 (.seq (.reg [(.locb p2 t0),
 (mI p4 (.mv (.c (.int .i64 (.ofNat 0)))))])
 (.seq (.seq (.reg [(mI p10 (.mv t1)),
 (mI p11 (.bin .lt t10 (.c (.int .i64 (.ofNat 0))))),
 (mI p12 (.mv t11)),
 (.mk (some p13) (some (p12, false)) (.mv t1)),
 (.mk (some p14) (some (p12, false)) (.bin .gt t13 (.c (.int .i64 (.ofNat 40))))),
 (mI p15 (.pick t12 (.c (.bool true)) t14)),
 (mI p16 (.mv t15)),
 (.mk (some p17) (some (p16, false)) (.fa 0 t2)),
 (.mk (some p18) (some (p16, false)) (.ld t17)),
 (.mk (some p19) (some (p16, false)) (.len t18)),
 (.mk (some p20) (some (p16, false)) (.bin .gt t19 (.c (.int .i64 (.ofNat 4))))),
 (mI p21 (.pick t16 (.c (.bool true)) t20)),
 (mI p22 (.mv t21)),
 (.mk (some p23) (some (p22, false)) (.fa 1 t2)),
 (.mk (some p24) (some (p22, false)) (.ld t23)),
 (.mk (some p25) (some (p22, false)) (.len t24)),
 (.mk (some p26) (some (p22, false)) (.bin .gt t25 (.c (.int .i64 (.ofNat 3))))),
 (mI p27 (.pick t22 (.c (.bool true)) t26))])
 (.cond t27 .bad .skip))
 (.seq (.reg [(mI p28 (.lda 2 t2)),
 (mI p29 (.mv t1)),
 (mI p30 (.mm .mmk [])),
 (mI p31 (.bld [.nils, .nils, (.int .i64 (.ofNat 0)), .nilm] [(0, 2, t28), (2, 1, t29), (3, 1, t30)])),
 (mI p32 (.bx t31)),
 (mI p5 (.mv t32))])
 (.seq (.seq (.reg [(mI p33 (.fa 0 t2)),
 (mI p34 (.ld t33)),
 (mI p35 (.len t34)),
 (mI p36 (.mv (.c (.int .i64 (.ofNat 0)))))])
 (.block 0 (.loop [p2, p5, p34, p35, p36] (.seq (.reg [(mI p37 (.bin .lt t36 t35))])
 (.seq (.cond t37 .skip (.exit 0))
 (.seq (.block 1 (.seq (.reg [(mI p38 (.ia 4 t34 t36)),
 (mI p39 (.lda 4 t38)),
 (.loc p7 [(.int .i64 (.ofNat 0)), (.int .i64 (.ofNat 0)), .nils, (.int .i64 (.ofNat 0))]),
 (.mk none none (.st 4 t7 t39))])
 (.seq (.reg [(mI p40 (.mv t5)),
 (mI p41 (.lda 4 t7)),
 (mI p42 (.call p154 [t40, t41])),
 (mI p43 (.not t42))])
 (.cond t43 .bad .skip))))
 (.reg [(mI p44 (.bin .add t36 (.c (.int .i64 (.ofNat 1))))),
 (mI p36 (.mv t44))])))))))
 (.seq (.seq (.reg [(mI p45 (.fa 1 t2)),
 (mI p46 (.ld t45)),
 (mI p47 (.len t46)),
 (mI p48 (.mv (.c (.int .i64 (.ofNat 0)))))])
 (.block 2 (.loop [p5, p46, p47, p48] (.seq (.reg [(mI p49 (.bin .lt t48 t47))])
 (.seq (.cond t49 .skip (.exit 2))
 (.seq (.block 3 (.seq (.reg [(mI p50 (.mv t48)),
 (mI p51 (.ia 4 t46 t48)),
 (mI p52 (.lda 4 t51)),
 (.loc p9 [(.int .i64 (.ofNat 0)), (.str 0 0), .nils, (.int .i64 (.ofNat 0))]),
 (mI p8 (.mv t50)),
 (.mk none none (.st 4 t9 t52))])
 (.seq (.reg [(mI p53 (.mv t5)),
 (mI p54 (.mv t8)),
 (mI p55 (.lda 4 t9)),
 (mI p56 (.call p222 [t53, t54, t55])),
 (mI p57 (.not t56))])
 (.cond t57 .bad .skip))))
 (.reg [(mI p58 (.bin .add t48 (.c (.int .i64 (.ofNat 1))))),
 (mI p48 (.mv t58))])))))))
 (.seq (.reg [(mI p4 (.mv (.c (.int .i64 (.ofNat 0)))))])
 .ret))))))
 [(.t p4)]
def ls153 : List Nat := [2, 7, 9]

/- (*delver/open.look).sym -/
def f154 : Fd := .mk [p0, p1]
 (.seq (.reg [(.locb p3 t1),
 (mI p4 (.mv (.c (.bool false))))])
 (.seq (.reg [(mI p8 (.fa 1 t3)),
 (mI p9 (.fa 0 t8)),
 (mI p10 (.ld t9)),
 (mI p11 (.bin .eq t10 (.c (.int .i64 (.ofNat 0))))),
 (mI p12 (.mv t11)),
 (.mk (some p13) (some (p12, true)) (.fa 1 t3)),
 (.mk (some p14) (some (p12, true)) (.fa 1 t13)),
 (.mk (some p15) (some (p12, true)) (.ld t14)),
 (.mk (some p16) (some (p12, true)) (.len t15)),
 (.mk (some p17) (some (p12, true)) (.bin .eq t16 (.c (.int .i64 (.ofNat 0))))),
 (mI p18 (.pick t12 t17 (.c (.bool false)))),
 (mI p5 (.mv t18))])
 (.seq (.seq (.reg [(mI p19 (.fa 0 t3)),
 (mI p20 (.ld t19))])
 (.block 0 (.seq (.reg [(mI p22 (.bin .eq t20 (.c (.int .i64 (.ofNat 1))))),
 (mI p21 (.mv t22))])
 (.cond t21 .bad (.seq (.seq (.reg [(mI p80 (.bin .eq t20 (.c (.int .i64 (.ofNat 2))))),
 (mI p79 (.mv t80))])
 (.cond t79 .skip (.reg [(mI p81 (.bin .eq t20 (.c (.int .i64 (.ofNat 4))))),
 (mI p79 (.mv t81))])))
 (.cond t79 (.seq (.reg [(mI p82 (.mv t5)),
 (mI p83 (.mv t82)),
 (.mk (some p84) (some (p83, true)) (.fa 3 t3)),
 (.mk (some p85) (some (p83, true)) (.ld t84)),
 (.mk (some p86) (some (p83, true)) (.bin .eq t85 (.c (.int .i64 (.ofNat 0))))),
 (mI p87 (.pick t83 t86 (.c (.bool false)))),
 (mI p4 (.mv t87))])
 .ret) (.seq (.reg [(mI p89 (.bin .eq t20 (.c (.int .i64 (.ofNat 3))))),
 (mI p88 (.mv t89))])
 (.cond t88 (.seq (.drw [(.mk true [p5] [p90] true (mI p90 (.mv t5))),
 (.mk true [p90] [p91] true (mI p91 (.mv t90))),
 (.mk true [p3, p91] [p92] true (.mk (some p92) (some (p91, true)) (.fa 3 t3))),
 (.mk true [p3, p92, p91] [p93] true (.mk (some p93) (some (p91, true)) (.vla 0 t92))),
 (.mk true [p93, p91] [p94] true (.mk (some p94) (some (p91, true)) (.bin .ge t93 (.c (.int .i64 (.ofNat 0)))))),
 (.mk true [p91, p94] [p95] true (mI p95 (.pick t91 t94 (.c (.bool false))))),
 (.mk true [p95] [p96] true (mI p96 (.mv t95))),
 (.mk true [p3, p96] [p97] true (.mk (some p97) (some (p96, true)) (.fa 3 t3))),
 (.mk true [p3, p97, p96] [p98] true (.mk (some p98) (some (p96, true)) (.vla 0 t97))),
 (.mk true [p0, p96] [p99] true (.mk (some p99) (some (p96, true)) (.mv t0))),
 (.mk true [p99, p96] [p100] true (.mk (some p100) (some (p96, true)) (.nc t99))),
 (.mk true [p100, p96] [p101] true (.mk (some p101) (some (p96, true)) (.fa 0 t100))),
 (.mk true [p101, p96] [p102] true (.mk (some p102) (some (p96, true)) (.fa 1 t101))),
 (.mk true [p102, p96] [p103] true (.mk (some p103) (some (p96, true)) (.ld t102))),
 (.mk true [p103, p96] [p104] true (.mk (some p104) (some (p96, true)) (.len t103))),
 (.mk true [p98, p104, p96] [p105] true (.mk (some p105) (some (p96, true)) (.bin .lt t98 t104))),
 (.mk true [p96, p105] [p106] true (mI p106 (.pick t96 t105 (.c (.bool false))))),
 (.mk true [p106] [p4] true (mI p4 (.mv t106)))])
 .ret) .bad))))))))
 .bad)))
 [(.t p4)]
def ls154 : List Nat := [3]

/- delver/walk.ref -/
def f155 : Fd := .mk [p0]
 (.seq (.reg [(.loc p2 [(.int .i64 (.ofNat 0)), (.int .i64 (.ofNat 0)), .nils, (.int .i64 (.ofNat 0))])])
 (.seq (.reg [(mI p3 (.mv t0)),
 (mI p4 (.bld [(.int .i64 (.ofNat 0)), (.int .i64 (.ofNat 0)), .nils, (.int .i64 (.ofNat 0))] [(0, 1, (.c (.int .i64 (.ofNat 3)))), (3, 1, t3)])),
 (.mk none none (.st 4 t2 t4))])
 .ret))
 [(.cell p2 (some 4))]
def ls155 : List Nat := [2]

/- delver/ints.Fits -/
def f161 : Fd := .mk [p0]
 (.seq (.reg [(mI p2 (.mv (.c (.bool false))))])
 (.seq (.reg [(mI p3 (.mv t0)),
 (mI p4 (.bin .ge t3 (.c (.int .i64 (.negSucc 2147483647))))),
 (mI p5 (.mv t4)),
 (.mk (some p6) (some (p5, true)) (.mv t0)),
 (.mk (some p7) (some (p5, true)) (.bin .le t6 (.c (.int .i64 (.ofNat 2147483647))))),
 (mI p8 (.pick t5 t7 (.c (.bool false)))),
 (mI p2 (.mv t8))])
 .ret))
 [(.t p2)]
def ls161 : List Nat := []

/- delver/ints.Add -/
def f165 : Fd := .mk [p0, p1]
 (.seq (.reg [(mI p4 (.mv (.c (.int .i64 (.ofNat 0))))),
 (mI p5 (.mv (.c (.bool false))))])
 (.seq (.seq (.reg [(mI p6 (.mv t0)),
 (mI p7 (.call p161 [t6])),
 (mI p8 (.not t7)),
 (mI p9 (.mv t8)),
 (.mk (some p10) (some (p9, false)) (.mv t1)),
 (.mk (some p11) (some (p9, false)) (.call p161 [t10])),
 (.mk (some p12) (some (p9, false)) (.not t11)),
 (mI p13 (.pick t9 (.c (.bool true)) t12))])
 (.cond t13 .bad .skip))
 (.seq (.reg [(mI p14 (.mv t0)),
 (mI p15 (.mv t1)),
 (mI p16 (.bin .add t14 t15)),
 (mI p17 (.call p224 [t16])),
 (mI p18 (.ex t17 0)),
 (mI p19 (.ex t17 1)),
 (mI p4 (.mv t18)),
 (mI p5 (.mv t19))])
 .ret)))
 [(.t p4), (.t p5)]
def ls165 : List Nat := []

/- (*delver/layout.Table).Slots -/
def f174 : Fd := .mk [p0, p1]
 (.seq (.reg [(mI p4 (.mv (.c .nils))),
 (mI p5 (.mv (.c (.bool false))))])
 (.seq (.reg [(mI p9 (.mv t0)),
 (mI p10 (.call p29 [t9])),
 (mI p11 (.nc t10)),
 (mI p12 (.fa 6 t11)),
 (mI p13 (.ld t12)),
 (mI p14 (.mv t1)),
 (mI p15 (.mm (.mlk false [2] [.nils] false true) [t13, t14])),
 (mI p8 (.mv t15)),
 (mI p16 (.ex t8 0)),
 (mI p17 (.ex t8 1)),
 (mI p6 (.mv t16)),
 (mI p7 (.mv t17))])
 (.seq (.drw [(.mk true [p0] [p18] true (mI p18 (.mv t0))),
 (.mk true [p18] [p19] true (mI p19 (.nc t18))),
 (.mk true [p19] [p20] true (mI p20 (.fa 7 t19))),
 (.mk true [p20] [p21] true (mI p21 (.ld t20))),
 (.mk true [p1] [p22] true (mI p22 (.mv t1))),
 (.mk true [p21, p22] [p23] true (mI p23 (.mm (.mlk false [2] [.nils] false false) [t21, t22]))),
 (.mk true [p7] [p24] true (mI p24 (.mv t7))),
 (.mk true [p24] [p25] true (mI p25 (.mv t24))),
 (.mk true [p0, p25] [p26] true (.mk (some p26) (some (p25, true)) (.mv t0))),
 (.mk true [p26, p25] [p27] true (.mk (some p27) (some (p25, true)) (.nc t26))),
 (.mk true [p27, p25] [p28] true (.mk (some p28) (some (p25, true)) (.fa 5 t27))),
 (.mk true [p28, p25] [p29] true (.mk (some p29) (some (p25, true)) (.ld t28))),
 (.mk true [p29, p25] [p30] true (.mk (some p30) (some (p25, true)) (.bin .eq t29 (.c (.int .i64 (.ofNat 0)))))),
 (.mk true [p25, p30] [p31] true (mI p31 (.pick t25 t30 (.c (.bool false))))),
 (.mk true [p23] [p4] true (mI p4 (.mv t23))),
 (.mk true [p31] [p5] true (mI p5 (.mv t31)))])
 .ret)))
 [(.t p4), (.t p5)]
def ls174 : List Nat := []

/- slices.IndexFunc[[]delver/api.Slot,delver/api.Slot] -/
def f176 : Fd := .mk [p0, p1]
 (.seq (.reg [(mI p4 (.mv (.c (.int .i64 (.ofNat 0)))))])
 (.seq (.seq (.reg [(mI p6 (.mv t0)),
 (mI p7 (.len t6)),
 (mI p8 (.mv (.c (.int .i64 (.ofNat 0)))))])
 (.block 0 (.loop [p0, p1, p7, p8] (.seq (.reg [(mI p9 (.bin .lt t8 t7))])
 (.seq (.cond t9 .bad (.exit 0))
 .bad)))))
 (.seq (.reg [(mI p4 (.mv (.c (.int .i64 (.negSucc 0)))))])
 .ret)))
 [(.t p4)]
def ls176 : List Nat := []

/- slices.IndexFunc[[]delver/api.Catch,delver/api.Catch] -/
def f183 : Fd := .mk [p0, p1]
 (.seq (.reg [(mI p4 (.mv (.c (.int .i64 (.ofNat 0)))))])
 (.seq (.seq (.reg [(mI p6 (.mv t0)),
 (mI p7 (.len t6)),
 (mI p8 (.mv (.c (.int .i64 (.ofNat 0)))))])
 (.block 0 (.loop [p0, p1, p7, p8] (.seq (.reg [(mI p9 (.bin .lt t8 t7))])
 (.seq (.cond t9 .bad (.exit 0))
 .bad)))))
 (.seq (.reg [(mI p4 (.mv (.c (.int .i64 (.negSucc 0)))))])
 .ret)))
 [(.t p4)]
def ls183 : List Nat := []

/- delver/show.each[delver/api.Class] -/
def f203 : Fd := .mk [p0, p1, p2]
 (.seq (.reg [(mI p5 (.bx t2)),
 (mI p6 (.mv (.c (.bool false))))])
 (.seq (.reg [(mI p7 (.mv t0)),
 (mI p8 (.len t7)),
 (mI p9 (.mv t1)),
 (mI p10 (.bin .le t8 t9)),
 (mI p11 (.mv t10)),
 (.mk (some p12) (some (p11, true)) (.mv t0)),
 (.mk (some p13) (some (p11, true)) (.mfn p266 [t5])),
 (.mk (some p14) (some (p11, true)) (.call p131 [t12, t13])),
 (.mk (some p15) (some (p11, true)) (.not t14)),
 (mI p16 (.pick t11 t15 (.c (.bool false)))),
 (mI p6 (.mv t16))])
 .ret))
 [(.t p6)]
def ls203 : List Nat := []

/- delver/show.class -/
def f204 : Fd := .mk [p0]
 (.seq (.reg [(.locb p1 t0),
 (mI p2 (.mv (.c (.bool false))))])
 (.seq (.reg [(mI p4 (.fa 2 t1)),
 (mI p5 (.ld t4)),
 (mI p6 (.px (.seq false) [t5, (.c (.str 0 0))])),
 (mI p7 (.mv t6)),
 (.mk (some p8) (some (p7, false)) (.fa 1 t1)),
 (.mk (some p9) (some (p7, false)) (.ld t8)),
 (.mk (some p10) (some (p7, false)) (.not t9)),
 (.mk (some p11) (some (p7, false)) (.mv t10)),
 (.mk (some p12) (some (p11, true)) (.fa 2 t1)),
 (.mk (some p13) (some (p11, true)) (.ld t12)),
 (.mk (some p14) (some (p11, true)) (.call p267 [t13])),
 (.mk (some p15) (some (p7, false)) (.pick t11 t14 (.c (.bool false)))),
 (mI p16 (.pick t7 (.c (.bool true)) t15)),
 (mI p3 (.mv t16))])
 (.seq (.reg [(mI p17 (.fa 0 t1)),
 (mI p18 (.ld t17)),
 (mI p19 (.call p267 [t18])),
 (mI p20 (.mv t19)),
 (.mk (some p21) (some (p20, true)) (.mv t3)),
 (mI p22 (.pick t20 t21 (.c (.bool false)))),
 (mI p23 (.mv t22)),
 (.mk (some p24) (some (p23, true)) (.fa 3 t1)),
 (.mk (some p25) (some (p23, true)) (.ld t24)),
 (.mk (some p26) (some (p23, true)) (.call p268 [t25, (.c (.int .i64 (.ofNat 4))), (.c (.fn p267 []))])),
 (mI p27 (.pick t23 t26 (.c (.bool false)))),
 (mI p28 (.mv t27)),
 (.mk (some p29) (some (p28, true)) (.fa 4 t1)),
 (.mk (some p30) (some (p28, true)) (.ld t29)),
 (.mk (some p31) (some (p28, true)) (.call p269 [t30, (.c (.int .i64 (.ofNat 6))), (.c (.fn p270 []))])),
 (mI p32 (.pick t28 t31 (.c (.bool false)))),
 (mI p33 (.mv t32)),
 (.mk (some p34) (some (p33, true)) (.fa 5 t1)),
 (.mk (some p35) (some (p33, true)) (.ld t34)),
 (.mk (some p36) (some (p33, true)) (.call p271 [t35, (.c (.int .i64 (.ofNat 6))), (.c (.fn p272 []))])),
 (mI p37 (.pick t33 t36 (.c (.bool false)))),
 (mI p2 (.mv t37))])
 .ret)))
 [(.t p2)]
def ls204 : List Nat := [1]

/- strings.Fields -/
def f205 : Fd := .mk [p0]
 (.seq (.reg [(mI p2 (.mv (.c .nils)))])
 (.seq (.reg [(mI p3 (.mv (.c (.int .i64 (.ofNat 0)))))])
 (.seq (.reg [(mI p4 (.mv (.c (.int .i64 (.ofNat 1)))))])
 (.seq (.reg [(mI p5 (.mv (.c (.int .u8 (.ofNat 0)))))])
 (.seq (.seq (.reg [(mI p6 (.mv (.c (.int .i64 (.ofNat 0)))))])
 (.block 0 (.loop [p0, p3, p4, p5, p6] (.seq (.seq (.reg [(mI p13 (.mv t6)),
 (mI p14 (.mv t0)),
 (mI p15 (.px .slen [t14])),
 (mI p16 (.bin .lt t13 t15))])
 (.cond t16 .skip (.exit 0)))
 (.seq (.block 1 (.seq (.reg [(mI p19 (.mv t0)),
 (mI p20 (.mv t6)),
 (mI p21 (.px .sidx [t19, t20])),
 (mI p7 (.mv t21))])
 (.seq (.reg [(mI p22 (.mv t5)),
 (mI p23 (.mv t7)),
 (mI p24 (.px .bor [t22, t23])),
 (mI p5 (.mv t24))])
 (.seq (.reg [(mI p25 (.mv t7)),
 (mI p26 (.px (.ixa 256 1) [(.c (.ptr p0 0)), t25])),
 (mI p27 (.ld t26)),
 (mI p28 (.cv .i64 t27)),
 (mI p8 (.mv t28))])
 (.seq (.reg [(mI p29 (.mv t3)),
 (mI p30 (.mv t4)),
 (mI p31 (.mv t8)),
 (mI p32 (.px .com [t31])),
 (mI p33 (.px .band [t30, t32])),
 (mI p34 (.bin .add t29 t33)),
 (mI p3 (.mv t34))])
 (.reg [(mI p35 (.mv t8)),
 (mI p4 (.mv t35))]))))))
 (.reg [(mI p17 (.mv t6)),
 (mI p18 (.bin .add t17 (.c (.int .i64 (.ofNat 1))))),
 (mI p6 (.mv t18))]))))))
 (.seq (.seq (.reg [(mI p36 (.mv t5)),
 (mI p37 (.bin .ge t36 (.c (.int .u8 (.ofNat 128)))))])
 (.cond t37 .bad .skip))
 (.seq (.reg [(mI p40 (.mv t3)),
 (mI p41 (.msl 1 16 [(.str 0 0)] t40 t40)),
 (mI p9 (.mv t41))])
 (.seq (.reg [(mI p10 (.mv (.c (.int .i64 (.ofNat 0)))))])
 (.seq (.reg [(mI p11 (.mv (.c (.int .i64 (.ofNat 0)))))])
 (.seq (.reg [(mI p12 (.mv (.c (.int .i64 (.ofNat 0)))))])
 (.seq (.block 2 (.loop [p0, p9, p10, p12] (.seq (.seq (.reg [(mI p42 (.mv t12)),
 (mI p43 (.mv t0)),
 (mI p44 (.px .slen [t43])),
 (mI p45 (.bin .lt t42 t44)),
 (mI p46 (.mv t45)),
 (.mk (some p47) (some (p46, true)) (.mv t0)),
 (.mk (some p48) (some (p46, true)) (.mv t12)),
 (.mk (some p49) (some (p46, true)) (.px .sidx [t47, t48])),
 (.mk (some p50) (some (p46, true)) (.px (.ixa 256 1) [(.c (.ptr p0 0)), t49])),
 (.mk (some p51) (some (p46, true)) (.ld t50)),
 (.mk (some p52) (some (p46, true)) (.bin .ne t51 (.c (.int .u8 (.ofNat 0))))),
 (mI p53 (.pick t46 t52 (.c (.bool false))))])
 (.cond t53 .bad (.exit 2)))
 .bad)))
 (.seq (.reg [(mI p56 (.mv t12)),
 (mI p11 (.mv t56))])
 (.seq (.block 4 (.loop [p0, p9, p10, p11, p12] (.seq (.seq (.reg [(mI p57 (.mv t12)),
 (mI p58 (.mv t0)),
 (mI p59 (.px .slen [t58])),
 (mI p60 (.bin .lt t57 t59))])
 (.cond t60 .skip (.exit 4)))
 (.block 5 (.seq (.seq (.reg [(mI p61 (.mv t0)),
 (mI p62 (.mv t12)),
 (mI p63 (.px .sidx [t61, t62])),
 (mI p64 (.px (.ixa 256 1) [(.c (.ptr p0 0)), t63])),
 (mI p65 (.ld t64)),
 (mI p66 (.bin .eq t65 (.c (.int .u8 (.ofNat 0)))))])
 (.cond t66 (.seq (.reg [(mI p67 (.mv t12)),
 (mI p68 (.bin .add t67 (.c (.int .i64 (.ofNat 1))))),
 (mI p12 (.mv t68))])
 (.exit 5)) .skip))
 (.seq (.reg [(mI p69 (.mv t9)),
 (mI p70 (.mv t10)),
 (mI p71 (.mv t0)),
 (mI p72 (.mv t11)),
 (mI p73 (.mv t12)),
 (mI p74 (.px (.ssl true true) [t71, t72, t73])),
 (mI p75 (.ia 1 t69 t70)),
 (.mk none none (.st 1 t75 t74))])
 (.seq (.reg [(mI p76 (.mv t10)),
 (mI p77 (.bin .add t76 (.c (.int .i64 (.ofNat 1))))),
 (mI p10 (.mv t77))])
 (.seq (.reg [(mI p78 (.mv t12)),
 (mI p79 (.bin .add t78 (.c (.int .i64 (.ofNat 1))))),
 (mI p12 (.mv t79))])
 (.seq (.block 6 (.loop [p0, p9, p10, p12] (.seq (.seq (.reg [(mI p80 (.mv t12)),
 (mI p81 (.mv t0)),
 (mI p82 (.px .slen [t81])),
 (mI p83 (.bin .lt t80 t82)),
 (mI p84 (.mv t83)),
 (.mk (some p85) (some (p84, true)) (.mv t0)),
 (.mk (some p86) (some (p84, true)) (.mv t12)),
 (.mk (some p87) (some (p84, true)) (.px .sidx [t85, t86])),
 (.mk (some p88) (some (p84, true)) (.px (.ixa 256 1) [(.c (.ptr p0 0)), t87])),
 (.mk (some p89) (some (p84, true)) (.ld t88)),
 (.mk (some p90) (some (p84, true)) (.bin .ne t89 (.c (.int .u8 (.ofNat 0))))),
 (mI p91 (.pick t84 t90 (.c (.bool false))))])
 (.cond t91 .bad (.exit 6)))
 .bad)))
 (.reg [(mI p94 (.mv t12)),
 (mI p11 (.mv t94))]))))))))))
 (.seq (.seq (.reg [(mI p95 (.mv t11)),
 (mI p96 (.mv t0)),
 (mI p97 (.px .slen [t96])),
 (mI p98 (.bin .lt t95 t97))])
 (.cond t98 (.reg [(mI p99 (.mv t9)),
 (mI p100 (.mv t10)),
 (mI p101 (.mv t0)),
 (mI p102 (.mv t11)),
 (mI p103 (.px (.ssl true false) [t101, t102])),
 (mI p104 (.ia 1 t99 t100)),
 (.mk none none (.st 1 t104 t103))]) .bad))
 (.seq (.reg [(mI p105 (.mv t9)),
 (mI p2 (.mv t105))])
 .ret)))))))))))))))
 [(.t p2)]
def ls205 : List Nat := []

/- slices.IndexFunc[[]delver/api.Class,delver/api.Class] -/
def f206 : Fd := .mk [p0, p1]
 (.seq (.reg [(mI p4 (.mv (.c (.int .i64 (.ofNat 0)))))])
 (.seq (.seq (.reg [(mI p6 (.mv t0)),
 (mI p7 (.len t6)),
 (mI p8 (.mv (.c (.int .i64 (.ofNat 0)))))])
 (.block 0 (.loop [p0, p1, p7, p8] (.seq (.reg [(mI p9 (.bin .lt t8 t7))])
 (.seq (.cond t9 .skip (.exit 0))
 (.seq (.block 1 (.seq (.reg [(mI p10 (.mv t8)),
 (mI p5 (.mv t10))])
 (.seq (.reg [(mI p11 (.mv t1)),
 (mI p12 (.mv t0)),
 (mI p13 (.mv t5)),
 (mI p14 (.ia 6 t12 t13)),
 (mI p15 (.lda 6 t14)),
 (mI p16 (.callv t11 [t15]))])
 (.cond t16 .bad .skip))))
 (.reg [(mI p18 (.bin .add t8 (.c (.int .i64 (.ofNat 1))))),
 (mI p8 (.mv t18))])))))))
 (.seq (.reg [(mI p4 (.mv (.c (.int .i64 (.negSucc 0)))))])
 .ret)))
 [(.t p4)]
def ls206 : List Nat := []

/- (*delver/hier.Tree).super -/
def f207 : Fd := .mk [p0, p1]
 (.seq (.reg [(.locb p3 t1),
 (mI p4 (.mv (.c (.str 0 0)))),
 (mI p5 (.mv (.c (.bool false))))])
 (.seq (.block 0 (.seq (.reg [(mI p7 (.fa 1 t3)),
 (mI p8 (.ld t7)),
 (mI p9 (.mv t8)),
 (.mk (some p10) (some (p9, false)) (.fa 0 t3)),
 (.mk (some p11) (some (p9, false)) (.ld t10)),
 (.mk (some p12) (some (p9, false)) (.px (.seq false) [t11, (.c (.str 6 127970252055119))])),
 (mI p13 (.pick t9 (.c (.bool true)) t12)),
 (mI p6 (.mv t13))])
 (.cond t6 (.seq (.reg [(mI p4 (.mv (.c (.str 0 0)))),
 (mI p5 (.mv (.c (.bool false))))])
 .ret) (.seq (.reg [(mI p15 (.fa 2 t3)),
 (mI p16 (.ld t15)),
 (mI p17 (.px (.seq false) [t16, (.c (.str 0 0))])),
 (mI p14 (.mv t17))])
 (.cond t14 (.seq (.reg [(mI p4 (.mv (.c (.str 6 127970252055119)))),
 (mI p5 (.mv (.c (.bool true))))])
 .ret) .skip)))))
 (.seq (.reg [(mI p18 (.fa 2 t3)),
 (mI p19 (.ld t18)),
 (mI p4 (.mv t19)),
 (mI p5 (.mv (.c (.bool true))))])
 .ret)))
 [(.t p4), (.t p5)]
def ls207 : List Nat := [3]

/- slices.IndexFunc[[]string,string] -/
def f209 : Fd := .mk [p0, p1]
 (.seq (.reg [(mI p4 (.mv (.c (.int .i64 (.ofNat 0)))))])
 (.seq (.seq (.reg [(mI p6 (.mv t0)),
 (mI p7 (.len t6)),
 (mI p8 (.mv (.c (.int .i64 (.ofNat 0)))))])
 (.block 0 (.loop [p0, p1, p7, p8] (.seq (.reg [(mI p9 (.bin .lt t8 t7))])
 (.seq (.cond t9 .skip (.exit 0))
 (.seq (.block 1 (.seq (.reg [(mI p10 (.mv t8)),
 (mI p5 (.mv t10))])
 (.seq (.reg [(mI p11 (.mv t1)),
 (mI p12 (.mv t0)),
 (mI p13 (.mv t5)),
 (mI p14 (.ia 1 t12 t13)),
 (mI p15 (.ld t14)),
 (mI p16 (.callv t11 [t15]))])
 (.cond t16 .bad .skip))))
 (.reg [(mI p18 (.bin .add t8 (.c (.int .i64 (.ofNat 1))))),
 (mI p8 (.mv t18))])))))))
 (.seq (.reg [(mI p4 (.mv (.c (.int .i64 (.negSucc 0)))))])
 .ret)))
 [(.t p4)]
def ls209 : List Nat := []

/- (*delver/hier.Tree).next -/
def f210 : Fd := .mk [p0, p1]
 (.seq (.reg [(mI p4 (.mv (.c .nils)))])
 (.seq (.reg [(mI p9 (.mv t0)),
 (mI p10 (.nc t9)),
 (mI p11 (.fa 3 t10)),
 (mI p12 (.ld t11)),
 (mI p13 (.mv t1)),
 (mI p14 (.mm (.mlk false [2] [(.str 0 0), (.bool false), (.str 0 0), .nils, .nils, .nils] true false) [t12, t13])),
 (.loc p5 [(.str 0 0), (.bool false), (.str 0 0), .nils, .nils, .nils]),
 (.mk none none (.st 6 t5 t14))])
 (.seq (.reg [(mI p15 (.fa 3 t5)),
 (mI p16 (.ld t15)),
 (mI p17 (.call p275 [t16])),
 (mI p6 (.mv t17))])
 (.seq (.seq (.reg [(mI p19 (.mv t0)),
 (mI p20 (.lda 6 t5)),
 (mI p21 (.call p207 [t19, t20])),
 (mI p18 (.mv t21)),
 (mI p22 (.ex t18 0)),
 (mI p23 (.ex t18 1)),
 (mI p7 (.mv t22)),
 (mI p8 (.mv t23))])
 (.seq (.reg [(mI p24 (.mv t8))])
 (.cond t24 (.reg [(mI p25 (.mv t6)),
 (mI p26 (.mv t7)),
 (mI p27 (.bsl 1 1 [(.str 0 0)] [(0, 1, t26)])),
 (mI p28 (.app 1 16 t25 t27)),
 (mI p6 (.mv t28))]) .skip)))
 (.seq (.reg [(mI p29 (.mv t6)),
 (mI p4 (.mv t29))])
 .ret)))))
 [(.t p4)]
def ls210 : List Nat := [5]

/- slices.Backward[[]string,string]$1 -/
def f211 : Fd := .itb 1 false

/- slices.Backward[[]delver/api.Method,delver/api.Method]$1 -/
def f212 : Fd := .itb 9 true

/- slices.IndexFunc[[]delver/api.Type,delver/api.Type] -/
def f213 : Fd := .mk [p0, p1]
 (.seq (.reg [(mI p4 (.mv (.c (.int .i64 (.ofNat 0)))))])
 (.seq (.seq (.reg [(mI p6 (.mv t0)),
 (mI p7 (.len t6)),
 (mI p8 (.mv (.c (.int .i64 (.ofNat 0)))))])
 (.block 0 (.loop [p0, p1, p7, p8] (.seq (.reg [(mI p9 (.bin .lt t8 t7))])
 (.seq (.cond t9 .skip (.exit 0))
 (.seq (.block 1 (.seq (.reg [(mI p10 (.mv t8)),
 (mI p5 (.mv t10))])
 (.seq (.reg [(mI p11 (.mv t1)),
 (mI p12 (.mv t0)),
 (mI p13 (.mv t5)),
 (mI p14 (.ia 2 t12 t13)),
 (mI p15 (.lda 2 t14)),
 (mI p16 (.callv t11 [t15]))])
 (.cond t16 .bad .skip))))
 (.reg [(mI p18 (.bin .add t8 (.c (.int .i64 (.ofNat 1))))),
 (mI p8 (.mv t18))])))))))
 (.seq (.reg [(mI p4 (.mv (.c (.int .i64 (.negSucc 0)))))])
 .ret)))
 [(.t p4)]
def ls213 : List Nat := []

/- slices.Sort[[]string,string] -/
def f214 : Fd := .mk [p0]
 (.seq (.reg [(mI p3 (.mv t0)),
 (mI p4 (.len t3)),
 (mI p2 (.mv t4))])
 (.reg [(mI p5 (.mv t0)),
 (mI p6 (.mv t2)),
 (mI p7 (.mv t2)),
 (mI p8 (.cv .u64 t7)),
 (mI p9 (.call p277 [t8])),
 (mI p10 (.call p276 [t5, (.c (.int .i64 (.ofNat 0))), t6, t9]))]))
 []
def ls214 : List Nat := []

/- slices.Compact[[]string,string] -/
def f215 : Fd := .mk [p0]
 (.seq (.reg [(mI p2 (.mv (.c .nils)))])
 (.seq (.seq (.reg [(mI p6 (.mv t0)),
 (mI p7 (.len t6)),
 (mI p8 (.bin .lt t7 (.c (.int .i64 (.ofNat 2)))))])
 (.cond t8 (.seq (.reg [(mI p9 (.mv t0)),
 (mI p2 (.mv t9))])
 .ret) .bad))
 .bad))
 [(.t p2)]
def ls215 : List Nat := []

/- (*delver/flow.walk).reach -/
def f217 : Fd := .mk [p0, p1, p2]
 (.seq (.reg [(.locb p5 t2),
 (mI p6 (.mv (.c (.int .i64 (.ofNat 0)))))])
 (.seq (.reg [(mI p9 (.mv t0)),
 (mI p10 (.nc t9)),
 (mI p11 (.fa 10 t10)),
 (mI p12 (.ld t11)),
 (mI p13 (.mv t1)),
 (mI p14 (.ia 3 t12 t13)),
 (mI p15 (.lda 3 t14)),
 (.loc p7 [(.bool false), .nils, .nils]),
 (.mk none none (.st 3 t7 t15))])
 (.seq (.block 0 (.seq (.reg [(mI p17 (.fa 0 t7)),
 (mI p18 (.ld t17)),
 (mI p19 (.not t18)),
 (mI p16 (.mv t19))])
 (.cond t16 (.seq (.drw [(.mk true [p0] [p20] true (mI p20 (.mv t0))),
 (.mk true [p20] [p21] true (mI p21 (.nc t20))),
 (.mk true [p21] [p22] true (mI p22 (.fa 10 t21))),
 (.mk true [p22] [p23] true (mI p23 (.ld t22))),
 (.mk true [p1] [p24] true (mI p24 (.mv t1))),
 (.mk true [p5] [p25] true (mI p25 (.fa 1 t5))),
 (.mk true [p5, p25] [p26] true (mI p26 (.vla 0 t25))),
 (.mk true [p26] [p27] true (mI p27 (.call p278 [t26]))),
 (.mk true [p5] [p28] true (mI p28 (.fa 2 t5))),
 (.mk true [p5, p28] [p29] true (mI p29 (.vla 0 t28))),
 (.mk true [p29] [p30] true (mI p30 (.call p278 [t29]))),
 (.mk true [p27, p30] [p31] true (mI p31 (.bld [(.bool false), .nils, .nils] [(0, 1, (.c (.bool true))), (1, 1, t27), (2, 1, t30)]))),
 (.mk true [p23, p24] [p32] true (mI p32 (.ia 3 t23 t24))),
 (.mk true [p32, p31] [] false (.mk none none (.st 3 t32 t31)))])
 (.seq (.reg [(mI p33 (.mv t0)),
 (mI p34 (.nc t33)),
 (mI p35 (.fa 11 t34)),
 (mI p36 (.ld t35)),
 (mI p37 (.mv t1)),
 (mI p38 (.ia 1 t36 t37)),
 (.mk none none (.st 1 t38 (.c (.bool true))))])
 (.seq (.reg [(mI p6 (.mv (.c (.int .i64 (.ofNat 0)))))])
 .ret))) .bad)))
 .bad)))
 [(.t p6)]
def ls217 : List Nat := [5, 7, 8]

/- delver/flow.effect -/
def f218 : Fd := .mk [p0, p1, p2, p3]
 (.seq (.reg [(.locb p5 t1),
 (.locb p6 t2),
 (.locb p7 t3),
 (.loc p8 [(.bool false), .nils, .nils]),
 (mI p9 (.mv (.c (.int .i64 (.ofNat 0)))))])
 (.seq (.drw [(.mk true [p0] [p11] true (mI p11 (.mv t0))),
 (.mk true [p5] [p12] true (mI p12 (.vla 9 t5))),
 (.mk true [p7] [p13] true (mI p13 (.fa 1 t7))),
 (.mk true [p7, p13] [p14] true (mI p14 (.vla 0 t13))),
 (.mk true [p14] [p15] false (mI p15 (.call p278 [t14]))),
 (.mk true [p7] [p16] true (mI p16 (.fa 2 t7))),
 (.mk true [p7, p16] [p17] true (mI p17 (.vla 0 t16))),
 (.mk true [p17] [p18] false (mI p18 (.call p278 [t17]))),
 (.mk true [p15, p18] [p19] true (mI p19 (.bld [(.bool false), .nils, .nils] [(0, 1, (.c (.bool true))), (1, 1, t15), (2, 1, t18)]))),
 (.mk true [p11, p12, p19] [p20] true (mI p20 (.bld [.nilp, (.str 0 0), (.bool false), (.bool false), .nils, (.int .i64 (.ofNat 0)), (.str 0 0), (.int .i64 (.ofNat 0)), .nils, .nils, (.bool false), .nils, .nils, (.int .i64 (.ofNat 0))] [(0, 1, t11), (1, 9, t12), (10, 3, t19)]))),
 (.mk true [p20] [p21] true (mI p21 (.bx t20))),
 (.mk true [p21] [p10] true (mI p10 (.mv t21)))])
 (.seq (.seq (.reg [(mI p22 (.mv t10)),
 (mI p23 (.lda 4 t6)),
 (mI p24 (.call p280 [t22, t23])),
 (mI p25 (.not t24)),
 (mI p26 (.mv t25)),
 (.mk (some p27) (some (p26, true)) (.mv t10)),
 (.mk (some p28) (some (p26, true)) (.lda 4 t6)),
 (.mk (some p29) (some (p26, true)) (.call p281 [t27, t28])),
 (.mk (some p30) (some (p26, true)) (.not t29)),
 (mI p31 (.pick t26 t30 (.c (.bool false)))),
 (mI p32 (.mv t31)),
 (.mk (some p33) (some (p32, true)) (.mv t10)),
 (.mk (some p34) (some (p32, true)) (.lda 4 t6)),
 (.mk (some p35) (some (p32, true)) (.call p282 [t33, t34])),
 (.mk (some p36) (some (p32, true)) (.not t35)),
 (mI p37 (.pick t32 t36 (.c (.bool false)))),
 (mI p38 (.mv t37)),
 (.mk (some p39) (some (p38, true)) (.mv t10)),
 (.mk (some p40) (some (p38, true)) (.lda 4 t6)),
 (.mk (some p41) (some (p38, true)) (.call p283 [t39, t40])),
 (.mk (some p42) (some (p38, true)) (.not t41)),
 (mI p43 (.pick t38 t42 (.c (.bool false))))])
 (.cond t43 (.reg [(mI p44 (.mv t10)),
 (mI p45 (.lda 4 t6)),
 (mI p46 (.call p284 [t44, t45]))]) .skip))
 (.seq (.drw [(.mk true [p10] [p47] true (mI p47 (.mv t10))),
 (.mk true [p47] [p48] true (mI p48 (.nc t47))),
 (.mk true [p48] [p49] true (mI p49 (.fa 10 t48))),
 (.mk true [p49] [p50] true (mI p50 (.lda 3 t49))),
 (.mk true [p10] [p51] true (mI p51 (.mv t10))),
 (.mk true [p51] [p52] true (mI p52 (.nc t51))),
 (.mk true [p52] [p53] true (mI p53 (.fa 13 t52))),
 (.mk true [p53] [p54] true (mI p54 (.ld t53))),
 (.mk true [p8, p50] [p8] true (.mk none none (.st 3 t8 t50))),
 (.mk true [p54] [p9] true (mI p9 (.mv t54)))])
 .ret))))
 [(.cell p8 (some 3)), (.t p9)]
def ls218 : List Nat := [5, 6, 7, 8]

/- delver/flow.Next -/
def f219 : Fd := .mk [p0, p1]
 (.seq (.reg [(.locb p2 t0),
 (mI p4 (.mv (.c .nils)))])
 (.seq (.seq (.reg [(mI p6 (.mv t1)),
 (mI p7 (.bin .lt t6 (.c (.int .i64 (.ofNat 0))))),
 (mI p8 (.mv t7)),
 (.mk (some p9) (some (p8, false)) (.mv t1)),
 (.mk (some p10) (some (p8, false)) (.fa 7 t2)),
 (.mk (some p11) (some (p8, false)) (.ld t10)),
 (.mk (some p12) (some (p8, false)) (.len t11)),
 (.mk (some p13) (some (p8, false)) (.bin .ge t9 t12)),
 (mI p14 (.pick t8 (.c (.bool true)) t13))])
 (.cond t14 .bad .skip))
 (.seq (.seq (.reg [(mI p15 (.fa 7 t2)),
 (mI p16 (.ld t15)),
 (mI p17 (.mv t1)),
 (mI p18 (.ia 4 t16 t17)),
 (mI p19 (.lda 4 t18)),
 (.loc p5 [(.int .i64 (.ofNat 0)), (.int .i64 (.ofNat 0)), (.str 0 0), (.str 0 0)]),
 (.mk none none (.st 4 t5 t19))])
 (.block 0 (.seq (.reg [(mI p21 (.fa 0 t5)),
 (mI p22 (.ld t21)),
 (mI p23 (.bin .eq t22 (.c (.int .i64 (.ofNat 14))))),
 (mI p20 (.mv t23))])
 (.cond t20 .bad (.seq (.reg [(mI p28 (.fa 0 t5)),
 (mI p29 (.ld t28)),
 (mI p30 (.bin .eq t29 (.c (.int .i64 (.ofNat 41))))),
 (mI p31 (.mv t30)),
 (.mk (some p32) (some (p31, false)) (.fa 0 t5)),
 (.mk (some p33) (some (p31, false)) (.ld t32)),
 (.mk (some p34) (some (p31, false)) (.bin .eq t33 (.c (.int .i64 (.ofNat 42))))),
 (mI p35 (.pick t31 (.c (.bool true)) t34)),
 (mI p36 (.mv t35)),
 (.mk (some p37) (some (p36, false)) (.fa 0 t5)),
 (.mk (some p38) (some (p36, false)) (.ld t37)),
 (.mk (some p39) (some (p36, false)) (.bin .eq t38 (.c (.int .i64 (.ofNat 43))))),
 (mI p40 (.pick t36 (.c (.bool true)) t39)),
 (mI p27 (.mv t40))])
 (.cond t27 (.seq (.reg [(mI p4 (.mv (.c .nils)))])
 .ret) (.seq (.reg [(mI p42 (.fa 0 t5)),
 (mI p43 (.ld t42)),
 (mI p44 (.call p285 [t43])),
 (mI p41 (.mv t44))])
 (.cond t41 .bad .skip))))))))
 (.seq (.reg [(mI p50 (.mv t1)),
 (mI p51 (.bin .add t50 (.c (.int .i64 (.ofNat 1))))),
 (mI p52 (.bsl 1 1 [(.int .i64 (.ofNat 0))] [(0, 1, t51)])),
 (mI p4 (.mv t52))])
 .ret))))
 [(.t p4)]
def ls219 : List Nat := [2, 5]

/- delver/open.Add -/
def f220 : Fd := .mk [p0, p1, p2, p3]
 (.seq (.reg [(.locb p4 t0),
 (mI p6 (.bx t2)),
 (.loc p8 [.nils, .nils]),
 (mI p9 (.mv (.c (.int .i64 (.ofNat 0))))),
 (mI p10 (.mv (.c (.int .i64 (.ofNat 0)))))])
 (.seq (.reg [(mI p14 (.lda 2 t4)),
 (mI p15 (.mv t1)),
 (mI p16 (.call p153 [t14, t15])),
 (mI p10 (.mv t16))])
 (.seq (.seq (.reg [(mI p17 (.mv t10)),
 (mI p18 (.bin .ne t17 (.c (.int .i64 (.ofNat 0)))))])
 (.cond t18 .bad .skip))
 (.seq (.reg [(mI p22 (.mv t3)),
 (mI p23 (.mv t1)),
 (mI p24 (.call p80 [t22, t23])),
 (mI p21 (.mv t24)),
 (mI p25 (.ex t21 0)),
 (mI p26 (.ex t21 1)),
 (mI p27 (.ex t21 2)),
 (mI p11 (.mv t25)),
 (mI p9 (.mv t26)),
 (mI p12 (.mv t27))])
 (.seq (.reg [(mI p28 (.mfn p286 [t6])),
 (mI p13 (.mv t28))])
 (.seq (.block 0 (.seq (.reg [(mI p30 (.fa 0 t6)),
 (mI p31 (.ld t30)),
 (mI p32 (.bin .ne t31 (.c (.int .i64 (.ofNat 3))))),
 (mI p33 (.mv t32)),
 (.mk (some p34) (some (p33, true)) (.lda 2 t6)),
 (.mk (some p35) (some (p33, true)) (.call p287 [t34])),
 (.mk (some p36) (some (p33, true)) (.not t35)),
 (mI p37 (.pick t33 t36 (.c (.bool false)))),
 (mI p38 (.mv t37)),
 (.mk (some p39) (some (p38, false)) (.mv t12)),
 (.mk (some p40) (some (p38, false)) (.not t39)),
 (mI p41 (.pick t38 (.c (.bool true)) t40)),
 (mI p42 (.mv t41)),
 (.mk (some p43) (some (p42, false)) (.mv t3)),
 (.mk (some p44) (some (p42, false)) (.mv t13)),
 (.mk (some p45) (some (p42, false)) (.call p139 [t43, t44])),
 (mI p46 (.pick t42 (.c (.bool true)) t45)),
 (mI p29 (.mv t46))])
 (.cond t29 .bad (.seq (.reg [(mI p49 (.fa 1 t4)),
 (mI p50 (.ld t49)),
 (mI p51 (.len t50)),
 (mI p52 (.bin .ge t51 (.c (.int .i64 (.ofNat 3))))),
 (mI p53 (.mv t52)),
 (.mk (some p54) (some (p53, false)) (.mv t3)),
 (.mk (some p55) (some (p53, false)) (.len t54)),
 (.mk (some p56) (some (p53, false)) (.lda 2 t6)),
 (.mk (some p57) (some (p53, false)) (.call p288 [t56])),
 (.mk (some p58) (some (p53, false)) (.bin .gt t55 t57)),
 (mI p59 (.pick t53 (.c (.bool true)) t58)),
 (mI p48 (.mv t59))])
 (.cond t48 .bad (.seq (.reg [(mI p62 (.mv t9)),
 (mI p63 (.bin .gt t62 (.c (.int .i64 (.ofNat 40))))),
 (mI p61 (.mv t63))])
 (.cond t61 .bad .skip)))))))
 (.seq (.reg [(mI p65 (.lda 2 t4)),
 (mI p66 (.call p23 [t65])),
 (.mk none none (.st 2 t4 t66))])
 (.seq (.reg [(mI p67 (.fa 1 t4)),
 (mI p68 (.ld t67)),
 (mI p69 (.lda 2 t6)),
 (mI p70 (.mv t11)),
 (mI p71 (.fa 1 t4)),
 (mI p72 (.ld t71)),
 (mI p73 (.len t72)),
 (mI p74 (.bld [(.int .i64 (.ofNat 0)), (.str 0 0), .nils, (.int .i64 (.ofNat 0))] [(0, 2, t69), (2, 1, t70), (3, 1, t73)])),
 (mI p75 (.bsl 1 4 [(.int .i64 (.ofNat 0)), (.str 0 0), .nils, (.int .i64 (.ofNat 0))] [(0, 4, t74)])),
 (mI p76 (.app 4 56 t68 t75)),
 (mI p77 (.fa 1 t4)),
 (.mk none none (.st 1 t77 t76))])
 (.seq (.reg [(mI p78 (.lda 2 t4)),
 (mI p79 (.mv t9)),
 (.mk none none (.st 2 t8 t78)),
 (mI p9 (.mv t79)),
 (mI p10 (.mv (.c (.int .i64 (.ofNat 0)))))])
 .ret)))))))))
 [(.cell p8 (some 2)), (.t p9), (.t p10)]
def ls220 : List Nat := [4, 8]

/- delver/lazy.SlotsIn -/
def f221 : Fd := .mk [p0, p1]
 (.seq (.reg [(.locb p3 t1),
 (mI p4 (.mv (.c .nils)))])
 (.seq (.reg [(mI p5 (.mv (.c .nils)))])
 (.seq (.seq (.reg [(mI p11 (.fa 0 t3)),
 (mI p12 (.ld t11)),
 (mI p13 (.bin .eq t12 (.c (.int .i64 (.ofNat 3)))))])
 (.cond t13 (.seq (.reg [(mI p15 (.mv t0)),
 (mI p16 (.fa 2 t3)),
 (mI p17 (.fa 1 t16)),
 (mI p18 (.ld t17)),
 (mI p19 (.call p174 [t15, t18])),
 (mI p14 (.mv t19)),
 (mI p20 (.ex t14 0)),
 (mI p21 (.ex t14 1)),
 (mI p6 (.mv t20)),
 (mI p7 (.mv t21))])
 (.seq (.seq (.reg [(mI p22 (.mv t6)),
 (mI p23 (.len t22)),
 (mI p24 (.mv (.c (.int .i64 (.ofNat 0)))))])
 (.block 0 (.loop [p5, p22, p23, p24] (.seq (.reg [(mI p25 (.bin .lt t24 t23))])
 (.seq (.cond t25 .skip (.exit 0))
 (.seq (.block 1 (.seq (.reg [(mI p26 (.ia 4 t22 t24)),
 (mI p27 (.lda 4 t26)),
 (.loc p9 [(.str 0 0), (.str 0 0), (.int .i64 (.ofNat 0)), (.str 0 0)]),
 (.mk none none (.st 4 t9 t27))])
 (.reg [(mI p28 (.mv t5)),
 (mI p29 (.fa 2 t9)),
 (mI p30 (.lda 2 t29)),
 (mI p31 (.bsl 1 2 [(.int .i64 (.ofNat 0)), (.str 0 0)] [(0, 2, t30)])),
 (mI p32 (.app 2 24 t28 t31)),
 (mI p5 (.mv t32))])))
 (.reg [(mI p33 (.bin .add t24 (.c (.int .i64 (.ofNat 1))))),
 (mI p24 (.mv t33))])))))))
 (.seq (.reg [(mI p34 (.mv t5)),
 (mI p4 (.mv t34))])
 .ret))) .bad))
 .bad)))
 [(.t p4)]
def ls221 : List Nat := [3, 9, 10]

/- (*delver/open.look).object -/
def f222 : Fd := .mk [p0, p1, p2]
 (.seq (.reg [(.locb p5 t2),
 (mI p6 (.mv (.c (.bool false))))])
 (.seq (.seq (.drw [(.mk true [p5] [p10] true (mI p10 (.fa 0 t5))),
 (.mk true [p5, p10] [p11] true (mI p11 (.fa 0 t10))),
 (.mk true [p5, p11] [p12] true (mI p12 (.vla 0 t11))),
 (.mk true [p12] [p13] true (mI p13 (.bin .ne t12 (.c (.int .i64 (.ofNat 3)))))),
 (.mk true [p13] [p14] true (mI p14 (.mv t13))),
 (.mk true [p5, p14] [p15] true (.mk (some p15) (some (p14, true)) (.fa 0 t5))),
 (.mk true [p5, p15, p14] [p16] true (.mk (some p16) (some (p14, true)) (.vla 2 t15))),
 (.mk true [p16, p14] [p17] false (.mk (some p17) (some (p14, true)) (.call p287 [t16]))),
 (.mk true [p17, p14] [p18] true (.mk (some p18) (some (p14, true)) (.not t17))),
 (.mk true [p14, p18] [p19] true (mI p19 (.pick t14 t18 (.c (.bool false))))),
 (.mk true [p19] [p20] true (mI p20 (.mv t19))),
 (.mk true [p5, p20] [p21] true (.mk (some p21) (some (p20, false)) (.fa 3 t5))),
 (.mk true [p5, p21, p20] [p22] true (.mk (some p22) (some (p20, false)) (.vla 0 t21))),
 (.mk true [p1, p20] [p23] true (.mk (some p23) (some (p20, false)) (.mv t1))),
 (.mk true [p22, p23, p20] [p24] true (.mk (some p24) (some (p20, false)) (.bin .ne t22 t23))),
 (.mk true [p20, p24] [p25] true (mI p25 (.pick t20 (.c (.bool true)) t24))),
 (.mk true [p25] [p26] true (mI p26 (.mv t25))),
 (.mk true [p5, p26] [p27] true (.mk (some p27) (some (p26, false)) (.fa 2 t5))),
 (.mk true [p5, p27, p26] [p28] true (.mk (some p28) (some (p26, false)) (.vla 0 t27))),
 (.mk true [p28, p26] [p29] true (.mk (some p29) (some (p26, false)) (.len t28))),
 (.mk true [p5, p26] [p30] true (.mk (some p30) (some (p26, false)) (.fa 0 t5))),
 (.mk true [p5, p30, p26] [p31] true (.mk (some p31) (some (p26, false)) (.vla 2 t30))),
 (.mk true [p31, p26] [p32] false (.mk (some p32) (some (p26, false)) (.call p288 [t31]))),
 (.mk true [p29, p32, p26] [p33] true (.mk (some p33) (some (p26, false)) (.bin .gt t29 t32))),
 (.mk true [p26, p33] [p34] true (mI p34 (.pick t26 (.c (.bool true)) t33)))])
 (.cond t34 .bad .skip))
 (.seq (.seq (.reg [(mI p35 (.fa 2 t5)),
 (mI p36 (.ld t35)),
 (mI p37 (.len t36)),
 (mI p38 (.mv (.c (.int .i64 (.ofNat 0)))))])
 (.block 0 (.loop [p0, p5, p36, p37, p38] (.seq (.reg [(mI p39 (.bin .lt t38 t37))])
 (.seq (.cond t39 .skip (.exit 0))
 (.seq (.block 1 (.seq (.reg [(mI p40 (.ia 4 t36 t38)),
 (mI p41 (.lda 4 t40)),
 (.loc p8 [(.int .i64 (.ofNat 0)), (.int .i64 (.ofNat 0)), .nils, (.int .i64 (.ofNat 0))]),
 (.mk none none (.st 4 t8 t41))])
 (.seq (.reg [(mI p42 (.fa 0 t8)),
 (mI p43 (.ld t42)),
 (mI p44 (.bin .eq t43 (.c (.int .i64 (.ofNat 1))))),
 (mI p9 (.mv t44))])
 (.seq (.reg [(mI p45 (.mv t0)),
 (mI p46 (.lda 4 t8)),
 (mI p47 (.call p154 [t45, t46])),
 (mI p48 (.not t47)),
 (mI p49 (.mv t48)),
 (.mk (some p50) (some (p49, false)) (.fa 0 t5)),
 (.mk (some p51) (some (p49, false)) (.lda 2 t50)),
 (.mk (some p52) (some (p49, false)) (.call p287 [t51])),
 (.mk (some p53) (some (p49, false)) (.mv t52)),
 (.mk (some p54) (some (p53, true)) (.mv t9)),
 (.mk (some p55) (some (p53, true)) (.fa 0 t5)),
 (.mk (some p56) (some (p53, true)) (.fa 0 t55)),
 (.mk (some p57) (some (p53, true)) (.ld t56)),
 (.mk (some p58) (some (p53, true)) (.bin .eq t57 (.c (.int .i64 (.ofNat 4))))),
 (.mk (some p59) (some (p53, true)) (.beq true t54 t58)),
 (.mk (some p60) (some (p49, false)) (.pick t53 t59 (.c (.bool false)))),
 (mI p61 (.pick t49 (.c (.bool true)) t60))])
 (.cond t61 .bad .skip)))))
 (.reg [(mI p62 (.bin .add t38 (.c (.int .i64 (.ofNat 1))))),
 (mI p38 (.mv t62))])))))))
 (.seq (.reg [(mI p6 (.mv (.c (.bool true))))])
 .ret))))
 [(.t p6)]
def ls222 : List Nat := [5, 8]

/- delver/ints.told -/
def f224 : Fd := .mk [p0]
 (.seq (.reg [(mI p2 (.mv (.c (.int .i64 (.ofNat 0))))),
 (mI p3 (.mv (.c (.bool false))))])
 (.seq (.seq (.reg [(mI p4 (.mv t0)),
 (mI p5 (.call p161 [t4])),
 (mI p6 (.not t5))])
 (.cond t6 .bad .skip))
 (.seq (.reg [(mI p7 (.mv t0)),
 (mI p2 (.mv t7)),
 (mI p3 (.mv (.c (.bool true))))])
 .ret)))
 [(.t p2), (.t p3)]
def ls224 : List Nat := []

/- delver/show.each[delver/api.Class]$1 -/
def f266 : Fd := .mk [p0, p1]
 (.seq (.reg [(.locb p2 t0),
 (mI p3 (.mv (.c (.bool false))))])
 (.seq (.reg [(mI p4 (.ld t1)),
 (mI p5 (.lda 6 t2)),
 (mI p6 (.callv t4 [t5])),
 (mI p7 (.not t6)),
 (mI p3 (.mv t7))])
 .ret))
 [(.t p3)]
def ls266 : List Nat := [2]

/- delver/parse.Fresh -/
def f267 : Fd := .mk [p0]
 (.seq (.reg [(mI p2 (.mv (.c (.bool false))))])
 (.seq (.reg [(mI p3 (.mv t0)),
 (mI p4 (.call p314 [t3])),
 (mI p5 (.mv t4)),
 (.mk (some p6) (some (p5, true)) (.mv t0)),
 (.mk (some p7) (some (p5, true)) (.call p315 [t6])),
 (.mk (some p8) (some (p5, true)) (.not t7)),
 (mI p9 (.pick t5 t8 (.c (.bool false)))),
 (mI p2 (.mv t9))])
 .ret))
 [(.t p2)]
def ls267 : List Nat := []

/- delver/show.each[string] -/
def f268 : Fd := .mk [p0, p1, p2]
 (.seq (.reg [(mI p5 (.bx t2)),
 (mI p6 (.mv (.c (.bool false))))])
 (.seq (.reg [(mI p7 (.mv t0)),
 (mI p8 (.len t7)),
 (mI p9 (.mv t1)),
 (mI p10 (.bin .le t8 t9)),
 (mI p11 (.mv t10)),
 (.mk (some p12) (some (p11, true)) (.mv t0)),
 (.mk (some p13) (some (p11, true)) (.mfn p316 [t5])),
 (.mk (some p14) (some (p11, true)) (.call p133 [t12, t13])),
 (.mk (some p15) (some (p11, true)) (.not t14)),
 (mI p16 (.pick t11 t15 (.c (.bool false)))),
 (mI p6 (.mv t16))])
 .ret))
 [(.t p6)]
def ls268 : List Nat := []

/- delver/show.each[delver/api.Field] -/
def f269 : Fd := .mk [p0, p1, p2]
 (.seq (.reg [(mI p5 (.bx t2)),
 (mI p6 (.mv (.c (.bool false))))])
 (.seq (.reg [(mI p7 (.mv t0)),
 (mI p8 (.len t7)),
 (mI p9 (.mv t1)),
 (mI p10 (.bin .le t8 t9)),
 (mI p11 (.mv t10)),
 (.mk (some p12) (some (p11, true)) (.mv t0)),
 (.mk (some p13) (some (p11, true)) (.mfn p318 [t5])),
 (.mk (some p14) (some (p11, true)) (.call p317 [t12, t13])),
 (.mk (some p15) (some (p11, true)) (.not t14)),
 (mI p16 (.pick t11 t15 (.c (.bool false)))),
 (mI p6 (.mv t16))])
 .ret))
 [(.t p6)]
def ls269 : List Nat := []

/- delver/show.field -/
def f270 : Fd := .mk [p0]
 (.seq (.reg [(.locb p1 t0),
 (mI p2 (.mv (.c (.bool false))))])
 (.seq (.reg [(mI p3 (.fa 0 t1)),
 (mI p4 (.ld t3)),
 (mI p5 (.call p267 [t4])),
 (mI p6 (.mv t5)),
 (.mk (some p7) (some (p6, true)) (.fa 1 t1)),
 (.mk (some p8) (some (p6, true)) (.lda 2 t7)),
 (.mk (some p9) (some (p6, true)) (.call p319 [t8])),
 (mI p10 (.pick t6 t9 (.c (.bool false)))),
 (mI p2 (.mv t10))])
 .ret))
 [(.t p2)]
def ls270 : List Nat := [1]

/- delver/show.each[delver/api.Method] -/
def f271 : Fd := .mk [p0, p1, p2]
 (.seq (.reg [(mI p5 (.bx t2)),
 (mI p6 (.mv (.c (.bool false))))])
 (.seq (.reg [(mI p7 (.mv t0)),
 (mI p8 (.len t7)),
 (mI p9 (.mv t1)),
 (mI p10 (.bin .le t8 t9)),
 (mI p11 (.mv t10)),
 (.mk (some p12) (some (p11, true)) (.mv t0)),
 (.mk (some p13) (some (p11, true)) (.mfn p321 [t5])),
 (.mk (some p14) (some (p11, true)) (.call p320 [t12, t13])),
 (.mk (some p15) (some (p11, true)) (.not t14)),
 (mI p16 (.pick t11 t15 (.c (.bool false)))),
 (mI p6 (.mv t16))])
 .ret))
 [(.t p6)]
def ls271 : List Nat := []

/- delver/show.method -/
def f272 : Fd := .mk [p0]
 (.seq (.reg [(.locb p1 t0),
 (mI p2 (.mv (.c (.bool false))))])
 (.seq (.seq (.reg [(mI p3 (.fa 2 t1)),
 (mI p4 (.ld t3)),
 (mI p5 (.mv t4)),
 (.mk (some p6) (some (p5, true)) (.fa 6 t1)),
 (.mk (some p7) (some (p5, true)) (.ld t6)),
 (.mk (some p8) (some (p5, true)) (.bin .ne t7 (.c (.int .i64 (.ofNat 0))))),
 (.mk (some p9) (some (p5, true)) (.mv t8)),
 (.mk (some p10) (some (p9, false)) (.fa 7 t1)),
 (.mk (some p11) (some (p9, false)) (.ld t10)),
 (.mk (some p12) (some (p9, false)) (.len t11)),
 (.mk (some p13) (some (p9, false)) (.fa 8 t1)),
 (.mk (some p14) (some (p9, false)) (.ld t13)),
 (.mk (some p15) (some (p9, false)) (.len t14)),
 (.mk (some p16) (some (p9, false)) (.bin .add t12 t15)),
 (.mk (some p17) (some (p9, false)) (.bin .gt t16 (.c (.int .i64 (.ofNat 0))))),
 (.mk (some p18) (some (p5, true)) (.pick t9 (.c (.bool true)) t17)),
 (mI p19 (.pick t5 t18 (.c (.bool false))))])
 (.cond t19 .bad .skip))
 (.seq (.reg [(mI p20 (.fa 0 t1)),
 (mI p21 (.ld t20)),
 (mI p22 (.call p267 [t21])),
 (mI p23 (.mv t22)),
 (.mk (some p24) (some (p23, true)) (.fa 3 t1)),
 (.mk (some p25) (some (p23, true)) (.ld t24)),
 (.mk (some p26) (some (p23, true)) (.call p322 [t25, (.c (.int .i64 (.ofNat 4))), (.c (.fn p319 []))])),
 (mI p27 (.pick t23 t26 (.c (.bool false)))),
 (mI p28 (.mv t27)),
 (.mk (some p29) (some (p28, true)) (.fa 4 t1)),
 (.mk (some p30) (some (p28, true)) (.lda 2 t29)),
 (.mk (some p31) (some (p28, true)) (.call p319 [t30])),
 (mI p32 (.pick t28 t31 (.c (.bool false)))),
 (mI p33 (.mv t32)),
 (.mk (some p34) (some (p33, true)) (.fa 6 t1)),
 (.mk (some p35) (some (p33, true)) (.ld t34)),
 (.mk (some p36) (some (p33, true)) (.call p323 [t35, (.c (.int .i64 (.ofNat 0))), (.c (.int .i64 (.ofNat 8)))])),
 (mI p37 (.pick t33 t36 (.c (.bool false)))),
 (mI p38 (.mv t37)),
 (.mk (some p39) (some (p38, true)) (.fa 7 t1)),
 (.mk (some p40) (some (p38, true)) (.ld t39)),
 (.mk (some p41) (some (p38, true)) (.call p324 [t40, (.c (.int .i64 (.ofNat 48))), (.c (.fn p325 []))])),
 (mI p42 (.pick t38 t41 (.c (.bool false)))),
 (mI p43 (.mv t42)),
 (.mk (some p44) (some (p43, true)) (.fa 8 t1)),
 (.mk (some p45) (some (p43, true)) (.ld t44)),
 (.mk (some p46) (some (p43, true)) (.call p326 [t45, (.c (.int .i64 (.ofNat 4))), (.c (.fn p327 []))])),
 (mI p47 (.pick t43 t46 (.c (.bool false)))),
 (mI p2 (.mv t47))])
 .ret)))
 [(.t p2)]
def ls272 : List Nat := [1]

/- slices.Clone[[]string,string] -/
def f275 : Fd := .mk [p0]
 (.seq (.reg [(mI p2 (.mv (.c .nils)))])
 (.seq (.seq (.reg [(mI p3 (.mv t0)),
 (mI p4 (.isnil false t3))])
 (.cond t4 (.seq (.reg [(mI p2 (.mv (.c .nils)))])
 .ret) .bad))
 .bad))
 [(.t p2)]
def ls275 : List Nat := []

/- slices.pdqsortOrdered[string] -/
def f276 : Fd := .mk [p0, p1, p2, p3]
 (.seq (.reg [(mI p8 (.mv (.c (.bool true))))])
 (.seq (.reg [(mI p9 (.mv (.c (.bool true))))])
 (.block 0 (.loop [p0, p1, p2, p3, p8, p9] (.block 1 (.seq (.reg [(mI p19 (.mv t2)),
 (mI p20 (.mv t1)),
 (mI p21 (.bin .sub t19 t20)),
 (mI p10 (.mv t21))])
 (.seq (.seq (.reg [(mI p22 (.mv t10)),
 (mI p23 (.bin .le t22 (.c (.int .i64 (.ofNat 12)))))])
 (.cond t23 (.seq (.reg [(mI p24 (.mv t0)),
 (mI p25 (.mv t1)),
 (mI p26 (.mv t2)),
 (mI p27 (.call p329 [t24, t25, t26]))])
 .ret) .bad))
 .bad)))))))
 []
def ls276 : List Nat := []

/- math/bits.Len -/
def f277 : Fd := .mk [p0]
 (.seq (.reg [(mI p2 (.mv (.c (.int .i64 (.ofNat 0)))))])
 (.seq (.cond (.c (.bool false)) .bad .skip)
 (.seq (.reg [(mI p6 (.mv t0)),
 (mI p7 (.call p339 [t6])),
 (mI p2 (.mv t7))])
 .ret)))
 [(.t p2)]
def ls277 : List Nat := []

/- slices.Clone[[]delver/api.Type,delver/api.Type] -/
def f278 : Fd := .mk [p0]
 (.seq (.reg [(mI p2 (.mv (.c .nils)))])
 (.seq (.seq (.reg [(mI p3 (.mv t0)),
 (mI p4 (.isnil false t3))])
 (.cond t4 (.seq (.reg [(mI p2 (.mv (.c .nils)))])
 .ret) .skip))
 (.seq (.reg [(mI p5 (.bsl 0 2 [] [])),
 (mI p6 (.mv t0)),
 (mI p7 (.app 2 24 t5 t6)),
 (mI p2 (.mv t7))])
 .ret)))
 [(.t p2)]
def ls278 : List Nat := []

/- (*delver/flow.place).numbers -/
def f280 : Fd := .mk [p0, p1]
 (.seq (.reg [(.locb p3 t1),
 (mI p4 (.mv (.c (.bool false))))])
 (.seq (.seq (.reg [(mI p5 (.fa 0 t3)),
 (mI p6 (.ld t5))])
 (.block 0 (.seq (.reg [(mI p8 (.bin .eq t6 (.c (.int .i64 (.ofNat 1))))),
 (mI p7 (.mv t8))])
 (.cond t7 (.reg [(mI p9 (.mv t0)),
 (mI p10 (.call p342 [])),
 (mI p11 (.call p341 [t9, t10]))]) (.seq (.seq (.reg [(mI p13 (.bin .eq t6 (.c (.int .i64 (.ofNat 8))))),
 (mI p12 (.mv t13))])
 (.cond t12 .skip (.seq (.reg [(mI p14 (.bin .eq t6 (.c (.int .i64 (.ofNat 9))))),
 (mI p12 (.mv t14))])
 (.cond t12 .bad (.seq (.reg [(mI p15 (.bin .eq t6 (.c (.int .i64 (.ofNat 10))))),
 (mI p12 (.mv t15))])
 (.cond t12 .bad (.seq (.reg [(mI p16 (.bin .eq t6 (.c (.int .i64 (.ofNat 11))))),
 (mI p12 (.mv t16))])
 (.cond t12 .bad (.reg [(mI p17 (.bin .eq t6 (.c (.int .i64 (.ofNat 12))))),
 (mI p12 (.mv t17))])))))))))
 (.cond t12 (.seq (.reg [(mI p18 (.mv t0)),
 (mI p19 (.call p343 [t18, (.c (.int .i64 (.ofNat 2)))]))])
 (.reg [(mI p20 (.mv t0)),
 (mI p21 (.call p342 [])),
 (mI p22 (.call p341 [t20, t21]))])) (.seq (.reg [(mI p24 (.bin .eq t6 (.c (.int .i64 (.ofNat 13))))),
 (mI p23 (.mv t24))])
 (.cond t23 .bad (.seq (.seq (.reg [(mI p31 (.bin .eq t6 (.c (.int .i64 (.ofNat 15))))),
 (mI p30 (.mv t31))])
 (.cond t30 .bad (.seq (.reg [(mI p32 (.bin .eq t6 (.c (.int .i64 (.ofNat 16))))),
 (mI p30 (.mv t32))])
 (.cond t30 .bad (.seq (.reg [(mI p33 (.bin .eq t6 (.c (.int .i64 (.ofNat 17))))),
 (mI p30 (.mv t33))])
 (.cond t30 .bad (.reg [(mI p34 (.bin .eq t6 (.c (.int .i64 (.ofNat 18))))),
 (mI p30 (.mv t34))])))))))
 (.cond t30 .bad (.seq (.seq (.reg [(mI p38 (.bin .eq t6 (.c (.int .i64 (.ofNat 19))))),
 (mI p37 (.mv t38))])
 (.cond t37 .bad (.seq (.reg [(mI p39 (.bin .eq t6 (.c (.int .i64 (.ofNat 20))))),
 (mI p37 (.mv t39))])
 (.cond t37 .bad (.seq (.reg [(mI p40 (.bin .eq t6 (.c (.int .i64 (.ofNat 21))))),
 (mI p37 (.mv t40))])
 (.cond t37 .bad (.reg [(mI p41 (.bin .eq t6 (.c (.int .i64 (.ofNat 22))))),
 (mI p37 (.mv t41))])))))))
 (.cond t37 .bad (.seq (.reg [(mI p4 (.mv (.c (.bool false))))])
 .ret)))))))))))))
 (.seq (.reg [(mI p4 (.mv (.c (.bool true))))])
 .ret)))
 [(.t p4)]
def ls280 : List Nat := [3]

/- (*delver/flow.place).stack -/
def f281 : Fd := .mk [p0, p1]
 (.seq (.reg [(.locb p3 t1),
 (mI p4 (.mv (.c (.bool false))))])
 (.seq (.reg [(mI p7 (.mv t0)),
 (mI p8 (.nc t7)),
 (mI p9 (.fa 10 t8)),
 (mI p10 (.fa 2 t9)),
 (mI p11 (.ld t10)),
 (mI p12 (.len t11)),
 (mI p5 (.mv t12))])
 (.seq (.seq (.reg [(mI p13 (.fa 0 t3)),
 (mI p14 (.ld t13))])
 (.block 0 (.seq (.seq (.reg [(mI p16 (.bin .eq t14 (.c (.int .i64 (.ofNat 0))))),
 (mI p15 (.mv t16))])
 (.cond t15 .bad (.reg [(mI p17 (.bin .eq t14 (.c (.int .i64 (.ofNat 14))))),
 (mI p15 (.mv t17))])))
 (.cond t15 .bad (.seq (.reg [(mI p19 (.bin .eq t14 (.c (.int .i64 (.ofNat 2))))),
 (mI p18 (.mv t19))])
 (.cond t18 .bad (.seq (.reg [(mI p24 (.bin .eq t14 (.c (.int .i64 (.ofNat 3))))),
 (mI p23 (.mv t24))])
 (.cond t23 .bad (.seq (.reg [(mI p54 (.bin .eq t14 (.c (.int .i64 (.ofNat 4))))),
 (mI p53 (.mv t54))])
 (.cond t53 .bad (.seq (.reg [(mI p76 (.bin .eq t14 (.c (.int .i64 (.ofNat 5))))),
 (mI p75 (.mv t76))])
 (.cond t75 .bad (.seq (.reg [(mI p80 (.bin .eq t14 (.c (.int .i64 (.ofNat 6))))),
 (mI p79 (.mv t80))])
 (.cond t79 .bad (.seq (.reg [(mI p99 (.bin .eq t14 (.c (.int .i64 (.ofNat 7))))),
 (mI p98 (.mv t99))])
 (.cond t98 .bad (.seq (.reg [(mI p4 (.mv (.c (.bool false))))])
 .ret)))))))))))))))))
 .bad)))
 [(.t p4)]
def ls281 : List Nat := [3, 6]

/- (*delver/flow.place).rows -/
def f282 : Fd := .mk [p0, p1]
 (.seq (.reg [(.locb p3 t1),
 (mI p4 (.mv (.c (.bool false))))])
 (.seq (.seq (.reg [(mI p7 (.fa 0 t3)),
 (mI p8 (.ld t7))])
 (.block 0 (.seq (.reg [(mI p10 (.bin .eq t8 (.c (.int .i64 (.ofNat 32))))),
 (mI p9 (.mv t10))])
 (.cond t9 .bad (.seq (.reg [(mI p17 (.bin .eq t8 (.c (.int .i64 (.ofNat 33))))),
 (mI p16 (.mv t17))])
 (.cond t16 .bad (.seq (.reg [(mI p30 (.bin .eq t8 (.c (.int .i64 (.ofNat 34))))),
 (mI p29 (.mv t30))])
 (.cond t29 .bad (.seq (.reg [(mI p37 (.bin .eq t8 (.c (.int .i64 (.ofNat 35))))),
 (mI p36 (.mv t37))])
 (.cond t36 .bad (.seq (.reg [(mI p45 (.bin .eq t8 (.c (.int .i64 (.ofNat 36))))),
 (mI p44 (.mv t45))])
 (.cond t44 .bad (.seq (.reg [(mI p4 (.mv (.c (.bool false))))])
 .ret)))))))))))))
 .bad))
 [(.t p4)]
def ls282 : List Nat := [3, 6]

/- (*delver/flow.place).objects -/
def f283 : Fd := .mk [p0, p1]
 (.seq (.reg [(.locb p3 t1),
 (mI p4 (.mv (.c (.bool false))))])
 (.seq (.seq (.reg [(mI p6 (.fa 0 t3)),
 (mI p7 (.ld t6))])
 (.block 0 (.seq (.seq (.reg [(mI p9 (.bin .eq t7 (.c (.int .i64 (.ofNat 23))))),
 (mI p8 (.mv t9))])
 (.cond t8 .bad (.reg [(mI p10 (.bin .eq t7 (.c (.int .i64 (.ofNat 24))))),
 (mI p8 (.mv t10))])))
 (.cond t8 .bad (.seq (.seq (.reg [(mI p14 (.bin .eq t7 (.c (.int .i64 (.ofNat 25))))),
 (mI p13 (.mv t14))])
 (.cond t13 .bad (.reg [(mI p15 (.bin .eq t7 (.c (.int .i64 (.ofNat 26))))),
 (mI p13 (.mv t15))])))
 (.cond t13 .bad (.seq (.reg [(mI p21 (.bin .eq t7 (.c (.int .i64 (.ofNat 27))))),
 (mI p20 (.mv t21))])
 (.cond t20 .bad (.seq (.reg [(mI p36 (.bin .eq t7 (.c (.int .i64 (.ofNat 28))))),
 (mI p35 (.mv t36))])
 (.cond t35 .bad (.seq (.reg [(mI p49 (.bin .eq t7 (.c (.int .i64 (.ofNat 29))))),
 (mI p48 (.mv t49))])
 (.cond t48 .bad (.seq (.reg [(mI p61 (.bin .eq t7 (.c (.int .i64 (.ofNat 30))))),
 (mI p60 (.mv t61))])
 (.cond t60 .bad (.seq (.reg [(mI p68 (.bin .eq t7 (.c (.int .i64 (.ofNat 31))))),
 (mI p67 (.mv t68))])
 (.cond t67 .bad (.seq (.reg [(mI p75 (.bin .eq t7 (.c (.int .i64 (.ofNat 37))))),
 (mI p74 (.mv t75))])
 (.cond t74 .bad (.seq (.reg [(mI p86 (.bin .eq t7 (.c (.int .i64 (.ofNat 38))))),
 (mI p85 (.mv t86))])
 (.cond t85 .bad (.seq (.reg [(mI p4 (.mv (.c (.bool false))))])
 .ret)))))))))))))))))))))
 .bad))
 [(.t p4)]
def ls283 : List Nat := [3, 5]

/- (*delver/flow.place).ways -/
def f284 : Fd := .mk [p0, p1]
 (.seq (.reg [(.locb p3 t1)])
 (.seq (.reg [(mI p10 (.mv t0)),
 (mI p11 (.nc t10)),
 (mI p12 (.fa 1 t11)),
 (mI p13 (.fa 4 t12)),
 (mI p14 (.fa 0 t13)),
 (mI p15 (.ld t14)),
 (mI p16 (.bin .eq t15 (.c (.int .i64 (.ofNat 1))))),
 (mI p4 (.mv t16))])
 (.seq (.reg [(mI p17 (.fa 0 t3)),
 (mI p18 (.ld t17))])
 (.block 0 (.seq (.reg [(mI p20 (.bin .eq t18 (.c (.int .i64 (.ofNat 39))))),
 (mI p19 (.mv t20))])
 (.cond t19 .bad (.seq (.reg [(mI p40 (.bin .eq t18 (.c (.int .i64 (.ofNat 40))))),
 (mI p39 (.mv t40))])
 (.cond t39 .bad (.seq (.reg [(mI p63 (.bin .eq t18 (.c (.int .i64 (.ofNat 41))))),
 (mI p62 (.mv t63))])
 (.cond t62 (.seq (.reg [(mI p64 (.mv t0)),
 (mI p65 (.mv t4)),
 (mI p66 (.not t65)),
 (mI p67 (.call p345 [t64, t66, (.c (.int .i64 (.ofNat 8)))]))])
 (.reg [(mI p68 (.mv t0)),
 (mI p69 (.mv t0)),
 (mI p70 (.nc t69)),
 (mI p71 (.fa 1 t70)),
 (mI p72 (.fa 4 t71)),
 (mI p73 (.lda 2 t72)),
 (mI p74 (.call p349 [t68, t73]))])) .bad))))))))))
 []
def ls284 : List Nat := [3, 5, 8]

/- delver/parse.Jump -/
def f285 : Fd := .mk [p0]
 (.seq (.reg [(mI p2 (.mv (.c (.bool false))))])
 (.seq (.reg [(mI p3 (.mv t0)),
 (mI p4 (.bin .ge t3 (.c (.int .i64 (.ofNat 14))))),
 (mI p5 (.mv t4)),
 (.mk (some p6) (some (p5, true)) (.mv t0)),
 (.mk (some p7) (some (p5, true)) (.bin .le t6 (.c (.int .i64 (.ofNat 26))))),
 (mI p8 (.pick t5 t7 (.c (.bool false)))),
 (mI p2 (.mv t8))])
 .ret))
 [(.t p2)]
def ls285 : List Nat := []

/- delver/open.Add$1 -/
def f286 : Fd := .mk [p0, p1]
 (.seq (.reg [(.locb p2 t0),
 (mI p3 (.mv (.c (.bool false))))])
 (.seq (.reg [(mI p4 (.lda 2 t1)),
 (mI p5 (.call p287 [t4])),
 (mI p6 (.mv t5)),
 (.mk (some p7) (some (p6, true)) (.fa 0 t2)),
 (.mk (some p8) (some (p6, true)) (.ld t7)),
 (.mk (some p9) (some (p6, true)) (.bin .eq t8 (.c (.int .i64 (.ofNat 2))))),
 (.mk (some p10) (some (p6, true)) (.fa 0 t1)),
 (.mk (some p11) (some (p6, true)) (.ld t10)),
 (.mk (some p12) (some (p6, true)) (.bin .eq t11 (.c (.int .i64 (.ofNat 4))))),
 (.mk (some p13) (some (p6, true)) (.beq true t9 t12)),
 (mI p14 (.pick t6 t13 (.c (.bool false)))),
 (mI p3 (.mv t14))])
 .ret))
 [(.t p3)]
def ls286 : List Nat := [2]

/- delver/open.isRow -/
def f287 : Fd := .mk [p0]
 (.seq (.reg [(.locb p1 t0),
 (mI p2 (.mv (.c (.bool false))))])
 (.seq (.reg [(mI p3 (.fa 0 t1)),
 (mI p4 (.ld t3)),
 (mI p5 (.bin .eq t4 (.c (.int .i64 (.ofNat 4))))),
 (mI p6 (.mv t5)),
 (.mk (some p7) (some (p6, false)) (.fa 0 t1)),
 (.mk (some p8) (some (p6, false)) (.ld t7)),
 (.mk (some p9) (some (p6, false)) (.bin .eq t8 (.c (.int .i64 (.ofNat 5))))),
 (mI p10 (.pick t6 (.c (.bool true)) t9)),
 (mI p2 (.mv t10))])
 .ret))
 [(.t p2)]
def ls287 : List Nat := [1]

/- delver/open.most -/
def f288 : Fd := .mk [p0]
 (.seq (.reg [(.locb p1 t0),
 (mI p2 (.mv (.c (.int .i64 (.ofNat 0)))))])
 (.seq (.seq (.reg [(mI p3 (.lda 2 t1)),
 (mI p4 (.call p287 [t3]))])
 (.cond t4 .bad .skip))
 (.seq (.reg [(mI p2 (.mv (.c (.int .i64 (.ofNat 64)))))])
 .ret)))
 [(.t p2)]
def ls288 : List Nat := [1]

/- delver/lex.Name -/
def f314 : Fd := .mk [p0]
 (.seq (.reg [(mI p2 (.mv (.c (.bool false))))])
 (.seq (.seq (.reg [(mI p4 (.mv t0)),
 (mI p5 (.px (.seq false) [t4, (.c (.str 0 0))])),
 (mI p6 (.mv t5)),
 (.mk (some p7) (some (p6, false)) (.mv t0)),
 (.mk (some p8) (some (p6, false)) (.px .slen [t7])),
 (.mk (some p9) (some (p6, false)) (.bin .gt t8 (.c (.int .i64 (.ofNat 20))))),
 (mI p10 (.pick t6 (.c (.bool true)) t9)),
 (mI p11 (.mv t10)),
 (.mk (some p12) (some (p11, false)) (.mv t0)),
 (.mk (some p13) (some (p11, false)) (.px .sidx [t12, (.c (.int .i64 (.ofNat 0)))])),
 (.mk (some p14) (some (p11, false)) (.call p367 [t13])),
 (.mk (some p15) (some (p11, false)) (.not t14)),
 (mI p16 (.pick t11 (.c (.bool true)) t15))])
 (.cond t16 .bad .skip))
 (.seq (.seq (.reg [(mI p17 (.mv t0)),
 (mI p18 (.px .slen [t17])),
 (mI p19 (.mv (.c (.int .i64 (.ofNat 0)))))])
 (.block 0 (.loop [p0, p18, p19] (.seq (.reg [(mI p20 (.bin .lt t19 t18))])
 (.seq (.cond t20 .skip (.exit 0))
 (.seq (.block 1 (.seq (.reg [(mI p21 (.mv t19)),
 (mI p3 (.mv t21))])
 (.seq (.reg [(mI p22 (.mv t0)),
 (mI p23 (.mv t3)),
 (mI p24 (.px .sidx [t22, t23])),
 (mI p25 (.call p367 [t24])),
 (mI p26 (.not t25)),
 (mI p27 (.mv t26)),
 (.mk (some p28) (some (p27, true)) (.mv t0)),
 (.mk (some p29) (some (p27, true)) (.mv t3)),
 (.mk (some p30) (some (p27, true)) (.px .sidx [t28, t29])),
 (.mk (some p31) (some (p27, true)) (.call p368 [t30])),
 (.mk (some p32) (some (p27, true)) (.not t31)),
 (mI p33 (.pick t27 t32 (.c (.bool false))))])
 (.cond t33 .bad .skip))))
 (.reg [(mI p34 (.bin .add t19 (.c (.int .i64 (.ofNat 1))))),
 (mI p19 (.mv t34))])))))))
 (.seq (.reg [(mI p2 (.mv (.c (.bool true))))])
 .ret))))
 [(.t p2)]
def ls314 : List Nat := []

/- delver/parse.Kept -/
def f315 : Fd := .mk [p0]
 (.seq (.reg [(mI p2 (.mv (.c (.bool false))))])
 (.seq (.reg [(mI p3 (.call p205 [(.c (.str 85 1967623882120786626696924300647020330172589534180580795246258512864573381358043352317504020601645165621625111470871058707064799373357907444276582371945201732717372270211791814985423871736859071312235162723))])),
 (mI p4 (.mv t0)),
 (mI p5 (.call p369 [t3, t4])),
 (mI p2 (.mv t5))])
 .ret))
 [(.t p2)]
def ls315 : List Nat := []

/- slices.ContainsFunc[[]delver/api.Field,delver/api.Field] -/
def f317 : Fd := .mk [p0, p1]
 (.seq (.reg [(mI p4 (.mv (.c (.bool false))))])
 (.seq (.reg [(mI p5 (.mv t0)),
 (mI p6 (.mv t1)),
 (mI p7 (.call p370 [t5, t6])),
 (mI p8 (.bin .ge t7 (.c (.int .i64 (.ofNat 0))))),
 (mI p4 (.mv t8))])
 .ret))
 [(.t p4)]
def ls317 : List Nat := []

/- delver/show.each[delver/api.Field]$1 -/
def f318 : Fd := .mk [p0, p1]
 (.seq (.reg [(.locb p2 t0),
 (mI p3 (.mv (.c (.bool false))))])
 (.seq (.reg [(mI p4 (.ld t1)),
 (mI p5 (.lda 4 t2)),
 (mI p6 (.callv t4 [t5])),
 (mI p7 (.not t6)),
 (mI p3 (.mv t7))])
 .ret))
 [(.t p3)]
def ls318 : List Nat := [2]

/- delver/show.typed -/
def f319 : Fd := .mk [p0]
 (.seq (.reg [(.locb p1 t0),
 (mI p2 (.mv (.c (.bool false))))])
 (.seq (.seq (.reg [(mI p3 (.fa 0 t1)),
 (mI p4 (.ld t3))])
 (.block 0 (.seq (.seq (.reg [(mI p6 (.bin .eq t4 (.c (.int .i64 (.ofNat 1))))),
 (mI p5 (.mv t6))])
 (.cond t5 .bad (.seq (.reg [(mI p7 (.bin .eq t4 (.c (.int .i64 (.ofNat 2))))),
 (mI p5 (.mv t7))])
 (.cond t5 .skip (.reg [(mI p8 (.bin .eq t4 (.c (.int .i64 (.ofNat 4))))),
 (mI p5 (.mv t8))])))))
 (.cond t5 (.seq (.reg [(mI p9 (.fa 1 t1)),
 (mI p10 (.ld t9)),
 (mI p11 (.px (.seq false) [t10, (.c (.str 0 0))])),
 (mI p2 (.mv t11))])
 .ret) (.seq (.seq (.reg [(mI p13 (.bin .eq t4 (.c (.int .i64 (.ofNat 3))))),
 (mI p12 (.mv t13))])
 (.cond t12 .skip .bad))
 (.cond t12 (.seq (.reg [(mI p15 (.fa 1 t1)),
 (mI p16 (.ld t15)),
 (mI p17 (.call p267 [t16])),
 (mI p2 (.mv t17))])
 .ret) .bad))))))
 .bad))
 [(.t p2)]
def ls319 : List Nat := [1]

/- slices.ContainsFunc[[]delver/api.Method,delver/api.Method] -/
def f320 : Fd := .mk [p0, p1]
 (.seq (.reg [(mI p4 (.mv (.c (.bool false))))])
 (.seq (.reg [(mI p5 (.mv t0)),
 (mI p6 (.mv t1)),
 (mI p7 (.call p78 [t5, t6])),
 (mI p8 (.bin .ge t7 (.c (.int .i64 (.ofNat 0))))),
 (mI p4 (.mv t8))])
 .ret))
 [(.t p4)]
def ls320 : List Nat := []

/- delver/show.each[delver/api.Method]$1 -/
def f321 : Fd := .mk [p0, p1]
 (.seq (.reg [(.locb p2 t0),
 (mI p3 (.mv (.c (.bool false))))])
 (.seq (.reg [(mI p4 (.ld t1)),
 (mI p5 (.lda 9 t2)),
 (mI p6 (.callv t4 [t5])),
 (mI p7 (.not t6)),
 (mI p3 (.mv t7))])
 .ret))
 [(.t p3)]
def ls321 : List Nat := [2]

/- delver/show.each[delver/api.Type] -/
def f322 : Fd := .mk [p0, p1, p2]
 (.seq (.reg [(mI p5 (.bx t2)),
 (mI p6 (.mv (.c (.bool false))))])
 (.seq (.reg [(mI p7 (.mv t0)),
 (mI p8 (.len t7)),
 (mI p9 (.mv t1)),
 (mI p10 (.bin .le t8 t9)),
 (mI p11 (.mv t10)),
 (.mk (some p12) (some (p11, true)) (.mv t0)),
 (.mk (some p13) (some (p11, true)) (.mfn p371 [t5])),
 (.mk (some p14) (some (p11, true)) (.call p139 [t12, t13])),
 (.mk (some p15) (some (p11, true)) (.not t14)),
 (mI p16 (.pick t11 t15 (.c (.bool false)))),
 (mI p6 (.mv t16))])
 .ret))
 [(.t p6)]
def ls322 : List Nat := []

/- delver/show.in -/
def f323 : Fd := .mk [p0, p1, p2]
 (.seq (.reg [(mI p6 (.mv (.c (.bool false))))])
 (.seq (.reg [(mI p7 (.mv t0)),
 (mI p8 (.mv t1)),
 (mI p9 (.bin .ge t7 t8)),
 (mI p10 (.mv t9)),
 (.mk (some p11) (some (p10, true)) (.mv t0)),
 (.mk (some p12) (some (p10, true)) (.mv t2)),
 (.mk (some p13) (some (p10, true)) (.bin .le t11 t12)),
 (mI p14 (.pick t10 t13 (.c (.bool false)))),
 (mI p6 (.mv t14))])
 .ret))
 [(.t p6)]
def ls323 : List Nat := []

/- delver/show.each[delver/api.Instr] -/
def f324 : Fd := .mk [p0, p1, p2]
 (.seq (.reg [(mI p5 (.bx t2)),
 (mI p6 (.mv (.c (.bool false))))])
 (.seq (.reg [(mI p7 (.mv t0)),
 (mI p8 (.len t7)),
 (mI p9 (.mv t1)),
 (mI p10 (.bin .le t8 t9)),
 (mI p11 (.mv t10)),
 (.mk (some p12) (some (p11, true)) (.mv t0)),
 (.mk (some p13) (some (p11, true)) (.mfn p373 [t5])),
 (.mk (some p14) (some (p11, true)) (.call p372 [t12, t13])),
 (.mk (some p15) (some (p11, true)) (.not t14)),
 (mI p16 (.pick t11 t15 (.c (.bool false)))),
 (mI p6 (.mv t16))])
 .ret))
 [(.t p6)]
def ls324 : List Nat := []

/- delver/show.instr -/
def f325 : Fd := .mk [p0]
 (.seq (.reg [(.locb p1 t0),
 (mI p2 (.mv (.c (.bool false))))])
 (.seq (.reg [(mI p7 (.fa 0 t1)),
 (mI p8 (.ld t7)),
 (mI p9 (.call p374 [t8])),
 (mI p6 (.mv t9)),
 (mI p10 (.ex t6 0)),
 (mI p11 (.ex t6 1)),
 (mI p12 (.ex t6 2)),
 (mI p3 (.mv t10)),
 (mI p4 (.mv t11)),
 (mI p5 (.mv t12))])
 (.seq (.drw [(.mk true [p1] [p13] true (mI p13 (.fa 0 t1))),
 (.mk true [p1, p13] [p14] true (mI p14 (.vla 0 t13))),
 (.mk true [p14] [p15] false (mI p15 (.call p323 [t14, (.c (.int .i64 (.ofNat 0))), (.c (.int .i64 (.ofNat 43)))]))),
 (.mk true [p15] [p16] true (mI p16 (.mv t15))),
 (.mk true [p1, p16] [p17] true (.mk (some p17) (some (p16, true)) (.fa 1 t1))),
 (.mk true [p1, p17, p16] [p18] true (.mk (some p18) (some (p16, true)) (.vla 0 t17))),
 (.mk true [p3, p16] [p19] true (.mk (some p19) (some (p16, true)) (.mv t3))),
 (.mk true [p4, p16] [p20] true (.mk (some p20) (some (p16, true)) (.mv t4))),
 (.mk true [p18, p19, p20, p16] [p21] false (.mk (some p21) (some (p16, true)) (.call p323 [t18, t19, t20]))),
 (.mk true [p16, p21] [p22] true (mI p22 (.pick t16 t21 (.c (.bool false))))),
 (.mk true [p22] [p23] true (mI p23 (.mv t22))),
 (.mk true [p1, p23] [p24] true (.mk (some p24) (some (p23, true)) (.fa 2 t1))),
 (.mk true [p1, p24, p23] [p25] true (.mk (some p25) (some (p23, true)) (.vla 0 t24))),
 (.mk true [p1, p23] [p26] true (.mk (some p26) (some (p23, true)) (.fa 0 t1))),
 (.mk true [p1, p26, p23] [p27] true (.mk (some p27) (some (p23, true)) (.vla 0 t26))),
 (.mk true [p27, p23] [p28] false (.mk (some p28) (some (p23, true)) (.call p376 [t27]))),
 (.mk true [p28, p23] [p29] true (.mk (some p29) (some (p23, true)) (.bin .gt t28 (.c (.int .i64 (.ofNat 0)))))),
 (.mk true [p25, p29, p23] [p30] false (.mk (some p30) (some (p23, true)) (.call p375 [t25, t29]))),
 (.mk true [p23, p30] [p31] true (mI p31 (.pick t23 t30 (.c (.bool false))))),
 (.mk true [p31] [p32] true (mI p32 (.mv t31))),
 (.mk true [p1, p32] [p33] true (.mk (some p33) (some (p32, true)) (.fa 3 t1))),
 (.mk true [p1, p33, p32] [p34] true (.mk (some p34) (some (p32, true)) (.vla 0 t33))),
 (.mk true [p1, p32] [p35] true (.mk (some p35) (some (p32, true)) (.fa 0 t1))),
 (.mk true [p1, p35, p32] [p36] true (.mk (some p36) (some (p32, true)) (.vla 0 t35))),
 (.mk true [p36, p32] [p37] false (.mk (some p37) (some (p32, true)) (.call p376 [t36]))),
 (.mk true [p37, p32] [p38] true (.mk (some p38) (some (p32, true)) (.bin .gt t37 (.c (.int .i64 (.ofNat 1)))))),
 (.mk true [p34, p38, p32] [p39] false (.mk (some p39) (some (p32, true)) (.call p375 [t34, t38]))),
 (.mk true [p32, p39] [p40] true (mI p40 (.pick t32 t39 (.c (.bool false))))),
 (.mk true [p40] [p2] true (mI p2 (.mv t40)))])
 .ret)))
 [(.t p2)]
def ls325 : List Nat := [1]

/- delver/show.each[delver/api.Catch] -/
def f326 : Fd := .mk [p0, p1, p2]
 (.seq (.reg [(mI p5 (.bx t2)),
 (mI p6 (.mv (.c (.bool false))))])
 (.seq (.reg [(mI p7 (.mv t0)),
 (mI p8 (.len t7)),
 (mI p9 (.mv t1)),
 (mI p10 (.bin .le t8 t9)),
 (mI p11 (.mv t10)),
 (.mk (some p12) (some (p11, true)) (.mv t0)),
 (.mk (some p13) (some (p11, true)) (.mfn p378 [t5])),
 (.mk (some p14) (some (p11, true)) (.call p377 [t12, t13])),
 (.mk (some p15) (some (p11, true)) (.not t14)),
 (mI p16 (.pick t11 t15 (.c (.bool false)))),
 (mI p6 (.mv t16))])
 .ret))
 [(.t p6)]
def ls326 : List Nat := []

/- slices.insertionSortOrdered[string] -/
def f329 : Fd := .mk [p0, p1, p2]
 (.seq (.reg [(mI p8 (.mv t1)),
 (mI p9 (.bin .add t8 (.c (.int .i64 (.ofNat 1))))),
 (mI p6 (.mv t9))])
 (.block 0 (.loop [p0, p1, p2, p6] (.seq (.seq (.reg [(mI p10 (.mv t6)),
 (mI p11 (.mv t2)),
 (mI p12 (.bin .lt t10 t11))])
 (.cond t12 .bad (.exit 0)))
 .bad))))
 []
def ls329 : List Nat := []

/- math/bits.Len64 -/
def f339 : Fd := .mk [p0]
 (.seq (.reg [(mI p2 (.mv (.c (.int .i64 (.ofNat 0)))))])
 (.seq (.seq (.reg [(mI p3 (.mv t0)),
 (mI p4 (.bin .ge t3 (.c (.int .u64 (.ofNat 4294967296)))))])
 (.cond t4 .bad .skip))
 (.seq (.seq (.reg [(mI p7 (.mv t0)),
 (mI p8 (.bin .ge t7 (.c (.int .u64 (.ofNat 65536)))))])
 (.cond t8 .bad .skip))
 (.seq (.seq (.reg [(mI p13 (.mv t0)),
 (mI p14 (.bin .ge t13 (.c (.int .u64 (.ofNat 256)))))])
 (.cond t14 .bad .skip))
 (.seq (.reg [(mI p19 (.mv t2)),
 (mI p20 (.mv t0)),
 (mI p21 (.cv .u8 t20)),
 (mI p22 (.px .sidx [(.c (.str 256 1013866857139168856493015739252390649739422828853819106890363778118420553376247557433637691341895324351018602695588957474325319502760499485336098898398377509666851054660423406800006203933793007272033180812049178612605246075062580585469430410618860250057463399279570354286669047577758927328864388992123306212451509403152394148136105363817402562688186708175358218852349079190158732807302672745370040257219644697201681238697346923541678507645485296520536209706771857694240900605172937619415410180424934769249448772944216470541052485265558808433676546390051204254346932932316488017972311616136051587427851453983453479168)), t21])),
 (mI p23 (.cv .i64 t22)),
 (mI p24 (.bin .add t19 t23)),
 (mI p2 (.mv t24))])
 .ret)))))
 [(.t p2)]
def ls339 : List Nat := []

/- (*delver/flow.place).give -/
def f341 : Fd := .mk [p0, p1]
 (.seq (.reg [(.locb p3 t1)])
 (.seq (.reg [(mI p4 (.mv t0)),
 (mI p5 (.mv t0)),
 (mI p6 (.nc t5)),
 (mI p7 (.fa 10 t6)),
 (mI p8 (.fa 2 t7)),
 (mI p9 (.ld t8)),
 (mI p10 (.len t9)),
 (mI p11 (.bin .lt t10 (.c (.int .i64 (.ofNat 8))))),
 (mI p12 (.call p345 [t4, t11, (.c (.int .i64 (.ofNat 10)))]))])
 (.seq (.reg [(mI p13 (.mv t0)),
 (mI p14 (.nc t13)),
 (mI p15 (.fa 13 t14)),
 (mI p16 (.ld t15)),
 (mI p17 (.bin .eq t16 (.c (.int .i64 (.ofNat 0)))))])
 (.cond t17 (.drw [(.mk true [p0] [p18] true (mI p18 (.mv t0))),
 (.mk true [p0] [p19] true (mI p19 (.mv t0))),
 (.mk true [p19] [p20] true (mI p20 (.nc t19))),
 (.mk true [p20] [p21] true (mI p21 (.fa 10 t20))),
 (.mk true [p21] [p22] true (mI p22 (.fa 2 t21))),
 (.mk true [p22] [p23] true (mI p23 (.ld t22))),
 (.mk true [p3] [p24] true (mI p24 (.vla 2 t3))),
 (.mk true [p24] [p25] true (mI p25 (.bsl 1 2 [(.int .i64 (.ofNat 0)), (.str 0 0)] [(0, 2, t24)]))),
 (.mk true [p23, p25] [p26] false (mI p26 (.app 2 24 t23 t25))),
 (.mk true [p18] [p27] true (mI p27 (.nc t18))),
 (.mk true [p27] [p28] true (mI p28 (.fa 10 t27))),
 (.mk true [p28] [p29] true (mI p29 (.fa 2 t28))),
 (.mk true [p29, p26] [] false (.mk none none (.st 1 t29 t26)))]) .bad))))
 []
def ls341 : List Nat := [3]

/- delver/flow.integer -/
def f342 : Fd := .mk []
 (.seq (.reg [(.loc p0 [(.int .i64 (.ofNat 0)), (.str 0 0)])])
 (.seq (.reg [(mI p1 (.bld [(.int .i64 (.ofNat 0)), (.str 0 0)] [(0, 1, (.c (.int .i64 (.ofNat 2))))])),
 (.mk none none (.st 2 t0 t1))])
 .ret))
 [(.cell p0 (some 2))]
def ls342 : List Nat := [0]

/- (*delver/flow.place).ints -/
def f343 : Fd := .mk [p0, p1]
 (.seq (.reg [(mI p4 (.mv t1)),
 (mI p5 (.mv (.c (.int .i64 (.ofNat 0)))))])
 (.block 0 (.loop [p0, p4, p5] (.seq (.reg [(mI p6 (.bin .lt t5 t4))])
 (.seq (.cond t6 .skip (.exit 0))
 (.seq (.block 1 (.reg [(mI p7 (.mv t0)),
 (mI p8 (.call p342 [])),
 (mI p9 (.call p349 [t7, t8]))]))
 (.reg [(mI p10 (.bin .add t5 (.c (.int .i64 (.ofNat 1))))),
 (mI p5 (.mv t10))])))))))
 []
def ls343 : List Nat := []

/- (*delver/flow.place).need -/
def f345 : Fd := .mk [p0, p1, p2]
 (.seq (.reg [(mI p6 (.mv t1)),
 (mI p7 (.not t6))])
 (.cond t7 .bad .skip))
 []
def ls345 : List Nat := []

/- (*delver/flow.place).any -/
def f346 : Fd := .mk [p0]
 (.seq (.reg [(.loc p2 [(.int .i64 (.ofNat 0)), (.str 0 0)])])
 (.seq (.reg [(mI p5 (.mv t0)),
 (mI p6 (.nc t5)),
 (mI p7 (.fa 10 t6)),
 (mI p8 (.fa 2 t7)),
 (mI p9 (.ld t8)),
 (mI p10 (.len t9)),
 (mI p3 (.mv t10))])
 (.seq (.seq (.reg [(mI p11 (.mv t3)),
 (mI p12 (.bin .eq t11 (.c (.int .i64 (.ofNat 0))))),
 (mI p13 (.mv t12)),
 (.mk (some p14) (some (p13, false)) (.mv t0)),
 (.mk (some p15) (some (p13, false)) (.nc t14)),
 (.mk (some p16) (some (p13, false)) (.fa 13 t15)),
 (.mk (some p17) (some (p13, false)) (.ld t16)),
 (.mk (some p18) (some (p13, false)) (.bin .ne t17 (.c (.int .i64 (.ofNat 0))))),
 (mI p19 (.pick t13 (.c (.bool true)) t18))])
 (.cond t19 .bad .skip))
 (.seq (.reg [(mI p23 (.mv t0)),
 (mI p24 (.nc t23)),
 (mI p25 (.fa 10 t24)),
 (mI p26 (.fa 2 t25)),
 (mI p27 (.ld t26)),
 (mI p28 (.mv t3)),
 (mI p29 (.bin .sub t28 (.c (.int .i64 (.ofNat 1))))),
 (mI p30 (.ia 2 t27 t29)),
 (mI p31 (.lda 2 t30)),
 (.loc p4 [(.int .i64 (.ofNat 0)), (.str 0 0)]),
 (.mk none none (.st 2 t4 t31))])
 (.seq (.reg [(mI p32 (.mv t0)),
 (mI p33 (.mv t0)),
 (mI p34 (.nc t33)),
 (mI p35 (.fa 10 t34)),
 (mI p36 (.fa 2 t35)),
 (mI p37 (.ld t36)),
 (mI p38 (.mv t3)),
 (mI p39 (.bin .sub t38 (.c (.int .i64 (.ofNat 1))))),
 (mI p40 (.sla 2 t37 none (some t39) none)),
 (mI p41 (.nc t32)),
 (mI p42 (.fa 10 t41)),
 (mI p43 (.fa 2 t42)),
 (.mk none none (.st 1 t43 t40))])
 (.seq (.reg [(mI p44 (.lda 2 t4)),
 (.mk none none (.st 2 t2 t44))])
 .ret))))))
 [(.cell p2 (some 2))]
def ls346 : List Nat := [2, 4]

/- (*delver/flow.place).take -/
def f349 : Fd := .mk [p0, p1]
 (.seq (.reg [(.locb p3 t1)])
 (.seq (.reg [(mI p5 (.mv t0)),
 (mI p6 (.call p346 [t5])),
 (.loc p4 [(.int .i64 (.ofNat 0)), (.str 0 0)]),
 (.mk none none (.st 2 t4 t6))])
 (.drw [(.mk true [p0] [p7] true (mI p7 (.mv t0))),
 (.mk true [p0] [p8] true (mI p8 (.mv t0))),
 (.mk true [p8] [p9] true (mI p9 (.nc t8))),
 (.mk true [p9] [p10] true (mI p10 (.fa 0 t9))),
 (.mk true [p10] [p11] true (mI p11 (.ld t10))),
 (.mk true [p4] [p12] true (mI p12 (.vla 2 t4))),
 (.mk true [p3] [p13] true (mI p13 (.vla 2 t3))),
 (.mk true [p11, p12, p13] [p14] false (mI p14 (.call p390 [t11, t12, t13]))),
 (.mk true [p7, p14] [p15] false (mI p15 (.call p345 [t7, t14, (.c (.int .i64 (.ofNat 8)))])))])))
 []
def ls349 : List Nat := [3, 4]

/- delver/lex.letter -/
def f367 : Fd := .mk [p0]
 (.seq (.reg [(mI p2 (.mv (.c (.bool false))))])
 (.seq (.reg [(mI p3 (.mv t0)),
 (mI p4 (.bin .ge t3 (.c (.int .u8 (.ofNat 97))))),
 (mI p5 (.mv t4)),
 (.mk (some p6) (some (p5, true)) (.mv t0)),
 (.mk (some p7) (some (p5, true)) (.bin .le t6 (.c (.int .u8 (.ofNat 122))))),
 (mI p8 (.pick t5 t7 (.c (.bool false)))),
 (mI p9 (.mv t8)),
 (.mk (some p10) (some (p9, false)) (.mv t0)),
 (.mk (some p11) (some (p9, false)) (.bin .ge t10 (.c (.int .u8 (.ofNat 65))))),
 (.mk (some p12) (some (p9, false)) (.mv t11)),
 (.mk (some p13) (some (p12, true)) (.mv t0)),
 (.mk (some p14) (some (p12, true)) (.bin .le t13 (.c (.int .u8 (.ofNat 90))))),
 (.mk (some p15) (some (p9, false)) (.pick t12 t14 (.c (.bool false)))),
 (mI p16 (.pick t9 (.c (.bool true)) t15)),
 (mI p17 (.mv t16)),
 (.mk (some p18) (some (p17, false)) (.mv t0)),
 (.mk (some p19) (some (p17, false)) (.bin .eq t18 (.c (.int .u8 (.ofNat 95))))),
 (mI p20 (.pick t17 (.c (.bool true)) t19)),
 (mI p2 (.mv t20))])
 .ret))
 [(.t p2)]
def ls367 : List Nat := []

/- slices.Contains[[]string,string] -/
def f369 : Fd := .mk [p0, p1]
 (.seq (.reg [(mI p4 (.mv (.c (.bool false))))])
 (.seq (.reg [(mI p5 (.mv t0)),
 (mI p6 (.mv t1)),
 (mI p7 (.call p400 [t5, t6])),
 (mI p8 (.bin .ge t7 (.c (.int .i64 (.ofNat 0))))),
 (mI p4 (.mv t8))])
 .ret))
 [(.t p4)]
def ls369 : List Nat := []

/- slices.IndexFunc[[]delver/api.Field,delver/api.Field] -/
def f370 : Fd := .mk [p0, p1]
 (.seq (.reg [(mI p4 (.mv (.c (.int .i64 (.ofNat 0)))))])
 (.seq (.seq (.reg [(mI p6 (.mv t0)),
 (mI p7 (.len t6)),
 (mI p8 (.mv (.c (.int .i64 (.ofNat 0)))))])
 (.block 0 (.loop [p0, p1, p7, p8] (.seq (.reg [(mI p9 (.bin .lt t8 t7))])
 (.seq (.cond t9 .skip (.exit 0))
 (.seq (.block 1 (.seq (.reg [(mI p10 (.mv t8)),
 (mI p5 (.mv t10))])
 (.seq (.reg [(mI p11 (.mv t1)),
 (mI p12 (.mv t0)),
 (mI p13 (.mv t5)),
 (mI p14 (.ia 4 t12 t13)),
 (mI p15 (.lda 4 t14)),
 (mI p16 (.callv t11 [t15]))])
 (.cond t16 .bad .skip))))
 (.reg [(mI p18 (.bin .add t8 (.c (.int .i64 (.ofNat 1))))),
 (mI p8 (.mv t18))])))))))
 (.seq (.reg [(mI p4 (.mv (.c (.int .i64 (.negSucc 0)))))])
 .ret)))
 [(.t p4)]
def ls370 : List Nat := []

/- delver/show.each[delver/api.Type]$1 -/
def f371 : Fd := .mk [p0, p1]
 (.seq (.reg [(.locb p2 t0),
 (mI p3 (.mv (.c (.bool false))))])
 (.seq (.reg [(mI p4 (.ld t1)),
 (mI p5 (.lda 2 t2)),
 (mI p6 (.callv t4 [t5])),
 (mI p7 (.not t6)),
 (mI p3 (.mv t7))])
 .ret))
 [(.t p3)]
def ls371 : List Nat := [2]

/- slices.ContainsFunc[[]delver/api.Instr,delver/api.Instr] -/
def f372 : Fd := .mk [p0, p1]
 (.seq (.reg [(mI p4 (.mv (.c (.bool false))))])
 (.seq (.reg [(mI p5 (.mv t0)),
 (mI p6 (.mv t1)),
 (mI p7 (.call p401 [t5, t6])),
 (mI p8 (.bin .ge t7 (.c (.int .i64 (.ofNat 0))))),
 (mI p4 (.mv t8))])
 .ret))
 [(.t p4)]
def ls372 : List Nat := []

/- delver/show.each[delver/api.Instr]$1 -/
def f373 : Fd := .mk [p0, p1]
 (.seq (.reg [(.locb p2 t0),
 (mI p3 (.mv (.c (.bool false))))])
 (.seq (.reg [(mI p4 (.ld t1)),
 (mI p5 (.lda 4 t2)),
 (mI p6 (.callv t4 [t5])),
 (mI p7 (.not t6)),
 (mI p3 (.mv t7))])
 .ret))
 [(.t p3)]
def ls373 : List Nat := [2]

/- delver/parse.Num -/
def f374 : Fd := .mk [p0]
 (.seq (.reg [(mI p2 (.mv (.c (.int .i64 (.ofNat 0))))),
 (mI p3 (.mv (.c (.int .i64 (.ofNat 0))))),
 (mI p4 (.mv (.c (.bool false))))])
 (.seq (.block 0 (.seq (.reg [(mI p6 (.mv t0)),
 (mI p7 (.bin .eq t6 (.c (.int .i64 (.ofNat 1))))),
 (mI p5 (.mv t7))])
 (.cond t5 (.seq (.reg [(mI p2 (.mv (.c (.int .i64 (.negSucc 2147483647))))),
 (mI p3 (.mv (.c (.int .i64 (.ofNat 2147483647))))),
 (mI p4 (.mv (.c (.bool true))))])
 .ret) (.seq (.reg [(mI p9 (.mv t0)),
 (mI p10 (.bin .eq t9 (.c (.int .i64 (.ofNat 3))))),
 (mI p11 (.mv t10)),
 (.mk (some p12) (some (p11, false)) (.mv t0)),
 (.mk (some p13) (some (p11, false)) (.bin .eq t12 (.c (.int .i64 (.ofNat 4))))),
 (mI p14 (.pick t11 (.c (.bool true)) t13)),
 (mI p8 (.mv t14))])
 (.cond t8 .bad (.seq (.reg [(mI p16 (.mv t0)),
 (mI p17 (.call p285 [t16])),
 (mI p15 (.mv t17))])
 (.cond t15 .bad .skip)))))))
 (.seq (.reg [(mI p2 (.mv (.c (.int .i64 (.ofNat 0))))),
 (mI p3 (.mv (.c (.int .i64 (.ofNat 0))))),
 (mI p4 (.mv (.c (.bool false))))])
 .ret)))
 [(.t p2), (.t p3), (.t p4)]
def ls374 : List Nat := []

/- delver/show.named -/
def f375 : Fd := .mk [p0, p1]
 (.seq (.reg [(mI p4 (.mv (.c (.bool false))))])
 (.seq (.reg [(mI p5 (.mv t1)),
 (mI p6 (.mv t5)),
 (.mk (some p7) (some (p6, true)) (.mv t0)),
 (.mk (some p8) (some (p6, true)) (.call p267 [t7])),
 (mI p9 (.pick t6 t8 (.c (.bool false)))),
 (mI p10 (.mv t9)),
 (.mk (some p11) (some (p10, false)) (.mv t1)),
 (.mk (some p12) (some (p10, false)) (.not t11)),
 (.mk (some p13) (some (p10, false)) (.mv t12)),
 (.mk (some p14) (some (p13, true)) (.mv t0)),
 (.mk (some p15) (some (p13, true)) (.px (.seq false) [t14, (.c (.str 0 0))])),
 (.mk (some p16) (some (p10, false)) (.pick t13 t15 (.c (.bool false)))),
 (mI p17 (.pick t10 (.c (.bool true)) t16)),
 (mI p4 (.mv t17))])
 .ret))
 [(.t p4)]
def ls375 : List Nat := []

/- delver/parse.Names -/
def f376 : Fd := .mk [p0]
 (.seq (.reg [(mI p2 (.mv (.c (.int .i64 (.ofNat 0)))))])
 (.seq (.seq (.reg [(mI p3 (.mv t0))])
 (.block 0 (.seq (.seq (.reg [(mI p5 (.bin .eq t3 (.c (.int .i64 (.ofNat 27))))),
 (mI p4 (.mv t5))])
 (.cond t4 .bad (.seq (.reg [(mI p6 (.bin .eq t3 (.c (.int .i64 (.ofNat 33))))),
 (mI p4 (.mv t6))])
 (.cond t4 .bad (.seq (.reg [(mI p7 (.bin .eq t3 (.c (.int .i64 (.ofNat 37))))),
 (mI p4 (.mv t7))])
 (.cond t4 .bad (.reg [(mI p8 (.bin .eq t3 (.c (.int .i64 (.ofNat 38))))),
 (mI p4 (.mv t8))])))))))
 (.cond t4 .bad (.seq (.seq (.reg [(mI p10 (.bin .eq t3 (.c (.int .i64 (.ofNat 28))))),
 (mI p9 (.mv t10))])
 (.cond t9 .bad (.seq (.reg [(mI p11 (.bin .eq t3 (.c (.int .i64 (.ofNat 29))))),
 (mI p9 (.mv t11))])
 (.cond t9 .bad (.seq (.reg [(mI p12 (.bin .eq t3 (.c (.int .i64 (.ofNat 30))))),
 (mI p9 (.mv t12))])
 (.cond t9 .bad (.seq (.reg [(mI p13 (.bin .eq t3 (.c (.int .i64 (.ofNat 31))))),
 (mI p9 (.mv t13))])
 (.cond t9 .bad (.seq (.reg [(mI p14 (.bin .eq t3 (.c (.int .i64 (.ofNat 39))))),
 (mI p9 (.mv t14))])
 (.cond t9 .bad (.reg [(mI p15 (.bin .eq t3 (.c (.int .i64 (.ofNat 40))))),
 (mI p9 (.mv t15))])))))))))))
 (.cond t9 .bad .skip))))))
 (.seq (.reg [(mI p2 (.mv (.c (.int .i64 (.ofNat 0)))))])
 .ret)))
 [(.t p2)]
def ls376 : List Nat := []

/- slices.ContainsFunc[[]delver/api.Catch,delver/api.Catch] -/
def f377 : Fd := .mk [p0, p1]
 (.seq (.reg [(mI p4 (.mv (.c (.bool false))))])
 (.seq (.reg [(mI p5 (.mv t0)),
 (mI p6 (.mv t1)),
 (mI p7 (.call p183 [t5, t6])),
 (mI p8 (.bin .ge t7 (.c (.int .i64 (.ofNat 0))))),
 (mI p4 (.mv t8))])
 .ret))
 [(.t p4)]
def ls377 : List Nat := []

/- delver/lattice.FitsIn -/
def f390 : Fd := .mk [p0, p1, p2]
 (.seq (.reg [(.locb p4 t1),
 (.locb p5 t2),
 (mI p6 (.mv (.c (.bool false))))])
 (.seq (.block 0 (.seq (.reg [(mI p8 (.mv t0)),
 (mI p9 (.lda 2 t4)),
 (mI p10 (.call p403 [t8, t9])),
 (mI p11 (.not t10)),
 (mI p12 (.mv t11)),
 (.mk (some p13) (some (p12, false)) (.mv t0)),
 (.mk (some p14) (some (p12, false)) (.lda 2 t5)),
 (.mk (some p15) (some (p12, false)) (.call p403 [t13, t14])),
 (.mk (some p16) (some (p12, false)) (.not t15)),
 (mI p17 (.pick t12 (.c (.bool true)) t16)),
 (mI p7 (.mv t17))])
 (.cond t7 .bad (.seq (.reg [(mI p19 (.fa 0 t5)),
 (mI p20 (.ld t19)),
 (mI p21 (.bin .eq t20 (.c (.int .i64 (.ofNat 7))))),
 (mI p22 (.mv t21)),
 (.mk (some p23) (some (p22, false)) (.lda 2 t4)),
 (.mk (some p24) (some (p22, false)) (.lda 2 t5)),
 (.mk (some p25) (some (p22, false)) (.px (.ceq [0, 2] false) [t23, t24])),
 (mI p26 (.pick t22 (.c (.bool true)) t25)),
 (mI p18 (.mv t26))])
 (.cond t18 (.seq (.reg [(mI p6 (.mv (.c (.bool true))))])
 .ret) .bad)))))
 .bad))
 [(.t p6)]
def ls390 : List Nat := [4, 5]

/- slices.Index[[]string,string] -/
def f400 : Fd := .mk [p0, p1]
 (.seq (.reg [(mI p4 (.mv (.c (.int .i64 (.ofNat 0)))))])
 (.seq (.seq (.reg [(mI p6 (.mv t0)),
 (mI p7 (.len t6)),
 (mI p8 (.mv (.c (.int .i64 (.ofNat 0)))))])
 (.block 0 (.loop [p0, p1, p7, p8] (.seq (.reg [(mI p9 (.bin .lt t8 t7))])
 (.seq (.cond t9 .skip (.exit 0))
 (.seq (.block 1 (.seq (.reg [(mI p10 (.mv t8)),
 (mI p5 (.mv t10))])
 (.seq (.reg [(mI p11 (.mv t1)),
 (mI p12 (.mv t0)),
 (mI p13 (.mv t5)),
 (mI p14 (.ia 1 t12 t13)),
 (mI p15 (.ld t14)),
 (mI p16 (.px (.seq false) [t11, t15]))])
 (.cond t16 .bad .skip))))
 (.reg [(mI p18 (.bin .add t8 (.c (.int .i64 (.ofNat 1))))),
 (mI p8 (.mv t18))])))))))
 (.seq (.reg [(mI p4 (.mv (.c (.int .i64 (.negSucc 0)))))])
 .ret)))
 [(.t p4)]
def ls400 : List Nat := []

/- slices.IndexFunc[[]delver/api.Instr,delver/api.Instr] -/
def f401 : Fd := .mk [p0, p1]
 (.seq (.reg [(mI p4 (.mv (.c (.int .i64 (.ofNat 0)))))])
 (.seq (.seq (.reg [(mI p6 (.mv t0)),
 (mI p7 (.len t6)),
 (mI p8 (.mv (.c (.int .i64 (.ofNat 0)))))])
 (.block 0 (.loop [p0, p1, p7, p8] (.seq (.reg [(mI p9 (.bin .lt t8 t7))])
 (.seq (.cond t9 .skip (.exit 0))
 (.seq (.block 1 (.seq (.reg [(mI p10 (.mv t8)),
 (mI p5 (.mv t10))])
 (.seq (.reg [(mI p11 (.mv t1)),
 (mI p12 (.mv t0)),
 (mI p13 (.mv t5)),
 (mI p14 (.ia 4 t12 t13)),
 (mI p15 (.lda 4 t14)),
 (mI p16 (.callv t11 [t15]))])
 (.cond t16 .bad .skip))))
 (.reg [(mI p18 (.bin .add t8 (.c (.int .i64 (.ofNat 1))))),
 (mI p8 (.mv t18))])))))))
 (.seq (.reg [(mI p4 (.mv (.c (.int .i64 (.negSucc 0)))))])
 .ret)))
 [(.t p4)]
def ls401 : List Nat := []

/- delver/lattice.RightIn -/
def f403 : Fd := .mk [p0, p1]
 (.seq (.reg [(.locb p3 t1),
 (mI p4 (.mv (.c (.bool false))))])
 (.seq (.seq (.reg [(mI p7 (.mv t0)),
 (mI p8 (.call p15 [t7])),
 (mI p9 (.bin .ne t8 (.c (.int .i64 (.ofNat 0)))))])
 (.cond t9 .bad .skip))
 (.seq (.seq (.reg [(mI p10 (.fa 0 t3)),
 (mI p11 (.ld t10))])
 (.block 0 (.seq (.seq (.reg [(mI p13 (.bin .eq t11 (.c (.int .i64 (.ofNat 2))))),
 (mI p12 (.mv t13))])
 (.cond t12 .skip .bad))
 (.cond t12 (.seq (.reg [(mI p17 (.fa 1 t3)),
 (mI p18 (.ld t17)),
 (mI p19 (.px (.seq false) [t18, (.c (.str 0 0))])),
 (mI p4 (.mv t19))])
 .ret) .bad))))
 .bad)))
 [(.t p4)]
def ls403 : List Nat := [3, 5]

def FT : Tr Fd := (.nd none (.nd none (.nd (some f3) (.nd (some f7) (.nd (some f15) (.nd none (.nd (some f63) .nl (.nd none (.nd (some f319) .nl .nl) .nl)) (.nd none (.nd none (.nd (some f287) .nl .nl) .nl) .nl)) (.nd (some f47) (.nd (some f79) (.nd (some f143) (.nd (some f271) .nl .nl) .nl) (.nd (some f207) .nl .nl)) (.nd none .nl (.nd none (.nd (some f367) .nl .nl) .nl)))) (.nd (some f23) (.nd (some f39) (.nd none (.nd (some f135) .nl .nl) .nl) (.nd (some f103) .nl .nl)) (.nd (some f55) (.nd (some f87) (.nd (some f151) .nl .nl) (.nd (some f215) (.nd (some f343) .nl .nl) .nl)) (.nd none (.nd (some f183) .nl .nl) (.nd none (.nd (some f375) .nl .nl) .nl))))) (.nd (some f11) (.nd (some f19) (.nd (some f35) (.nd (some f67) (.nd (some f131) .nl .nl) (.nd none (.nd (some f323) .nl .nl) .nl)) .nl) (.nd (some f51) (.nd none (.nd (some f147) (.nd (some f275) .nl .nl) (.nd (some f403) .nl .nl)) (.nd (some f211) (.nd (some f339) .nl .nl) .nl)) (.nd none .nl (.nd none (.nd (some f371) .nl .nl) .nl)))) (.nd (some f27) (.nd (some f43) (.nd (some f75) (.nd (some f139) (.nd (some f267) .nl .nl) .nl) (.nd (some f203) .nl .nl)) .nl) (.nd (some f59) (.nd none (.nd (some f155) (.nd (some f283) .nl .nl) .nl) (.nd (some f219) .nl .nl)) (.nd none (.nd none (.nd (some f315) .nl .nl) .nl) .nl))))) (.nd (some f5) (.nd (some f9) (.nd (some f17) (.nd (some f33) (.nd (some f65) (.nd (some f129) .nl .nl) (.nd none (.nd (some f321) .nl .nl) .nl)) (.nd (some f97) (.nd (some f161) .nl .nl) .nl)) (.nd none (.nd (some f81) (.nd none .nl (.nd (some f401) .nl .nl)) (.nd (some f209) .nl .nl)) (.nd none .nl (.nd none (.nd (some f369) .nl .nl) .nl)))) (.nd (some f25) (.nd none (.nd (some f73) (.nd (some f137) .nl .nl) (.nd none (.nd (some f329) .nl .nl) .nl)) .nl) (.nd (some f57) (.nd none (.nd (some f153) (.nd (some f281) .nl .nl) .nl) (.nd (some f217) (.nd (some f345) .nl .nl) .nl)) (.nd none .nl (.nd none (.nd (some f377) .nl .nl) .nl))))) (.nd (some f13) (.nd (some f21) (.nd (some f37) (.nd none (.nd (some f133) .nl .nl) (.nd none (.nd (some f325) .nl .nl) .nl)) (.nd (some f101) (.nd (some f165) .nl .nl) .nl)) (.nd (some f53) (.nd (some f85) (.nd (some f149) (.nd (some f277) .nl .nl) .nl) (.nd (some f213) (.nd (some f341) .nl .nl) .nl)) (.nd none .nl (.nd none (.nd (some f373) .nl .nl) .nl)))) (.nd (some f29) (.nd (some f45) (.nd (some f77) (.nd (some f141) (.nd (some f269) .nl .nl) .nl) (.nd (some f205) .nl .nl)) .nl) (.nd none (.nd (some f93) (.nd none (.nd (some f285) .nl .nl) .nl) (.nd (some f221) (.nd (some f349) .nl .nl) .nl)) (.nd none (.nd none (.nd (some f317) .nl .nl) .nl) .nl)))))) (.nd none (.nd none (.nd (some f8) (.nd none (.nd (some f32) (.nd (some f64) .nl (.nd none (.nd (some f320) .nl .nl) .nl)) (.nd none (.nd none (.nd (some f288) .nl .nl) .nl) (.nd (some f224) .nl .nl))) (.nd (some f48) (.nd (some f80) (.nd none (.nd (some f272) .nl .nl) (.nd (some f400) .nl .nl)) .nl) (.nd none (.nd (some f176) .nl .nl) .nl))) (.nd (some f24) (.nd (some f40) (.nd (some f72) (.nd (some f136) .nl .nl) .nl) .nl) (.nd (some f56) (.nd (some f88) (.nd (some f152) (.nd (some f280) .nl .nl) .nl) .nl) (.nd (some f120) .nl (.nd none (.nd (some f376) .nl .nl) .nl))))) (.nd (some f12) (.nd (some f20) (.nd (some f36) (.nd (some f68) (.nd (some f132) .nl .nl) (.nd none (.nd (some f324) .nl .nl) .nl)) (.nd (some f100) .nl .nl)) (.nd (some f52) (.nd (some f84) (.nd (some f148) (.nd (some f276) .nl .nl) .nl) (.nd (some f212) .nl .nl)) (.nd none .nl (.nd none (.nd (some f372) .nl .nl) .nl)))) (.nd (some f28) (.nd (some f44) (.nd (some f76) (.nd (some f140) (.nd (some f268) .nl .nl) .nl) (.nd (some f204) .nl .nl)) .nl) (.nd none (.nd (some f92) (.nd none (.nd (some f284) .nl .nl) .nl) (.nd (some f220) .nl .nl)) .nl)))) (.nd (some f6) (.nd none (.nd (some f18) (.nd (some f34) (.nd (some f66) (.nd (some f130) .nl .nl) (.nd none (.nd (some f322) .nl .nl) .nl)) (.nd (some f98) .nl .nl)) (.nd (some f50) (.nd (some f82) (.nd (some f146) .nl .nl) (.nd (some f210) .nl .nl)) (.nd none .nl (.nd none (.nd (some f370) .nl .nl) .nl)))) (.nd (some f26) (.nd (some f42) (.nd (some f74) (.nd (some f138) (.nd (some f266) .nl .nl) .nl) .nl) .nl) (.nd none (.nd (some f90) (.nd (some f154) (.nd (some f282) .nl .nl) .nl) (.nd (some f218) (.nd (some f346) .nl .nl) .nl)) (.nd none (.nd none (.nd (some f314) .nl .nl) .nl) .nl)))) (.nd (some f14) (.nd none (.nd none (.nd none (.nd (some f134) .nl (.nd (some f390) .nl .nl)) (.nd none (.nd (some f326) .nl .nl) .nl)) (.nd (some f102) .nl .nl)) (.nd (some f54) (.nd (some f86) (.nd (some f150) (.nd (some f278) .nl .nl) .nl) (.nd (some f214) (.nd (some f342) .nl .nl) .nl)) (.nd none .nl (.nd none (.nd (some f374) .nl .nl) .nl)))) (.nd (some f30) (.nd (some f46) (.nd (some f78) (.nd (some f142) (.nd (some f270) .nl .nl) .nl) (.nd (some f206) .nl .nl)) (.nd none (.nd (some f174) .nl .nl) .nl)) (.nd (some f62) (.nd (some f94) (.nd none (.nd (some f286) .nl .nl) .nl) (.nd (some f222) .nl .nl)) (.nd none (.nd none (.nd (some f318) .nl .nl) .nl) .nl)))))))
end Go.Proofs.YtnoekfkfinjfgaaGreatDoor.Dx
