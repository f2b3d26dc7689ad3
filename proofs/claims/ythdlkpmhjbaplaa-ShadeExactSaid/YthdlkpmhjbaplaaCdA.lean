/- The small machine's code of this seat's functions, printed by a program (Gen.lean). No statement of this seat is proved here. -/
import Derived.Test.YthdlkpmhjbaplaaDxA
set_option autoImplicit false
set_option maxRecDepth 100000
noncomputable section
namespace Go.Proofs.Ythdlkpmhjbaplaa.Dx
open Go

abbrev p0 : P := .z
abbrev t0 : Opd := .t p0
abbrev p1 : P := (.l .z)
abbrev t1 : Opd := .t p1
abbrev p2 : P := (.r .z)
abbrev t2 : Opd := .t p2
abbrev p3 : P := (.l (.l .z))
abbrev t3 : Opd := .t p3
abbrev p4 : P := (.r (.l .z))
abbrev t4 : Opd := .t p4
abbrev p5 : P := (.l (.r .z))
abbrev t5 : Opd := .t p5
abbrev p6 : P := (.r (.r .z))
abbrev t6 : Opd := .t p6
abbrev p7 : P := (.l (.l (.l .z)))
abbrev t7 : Opd := .t p7
abbrev p8 : P := (.r (.l (.l .z)))
abbrev t8 : Opd := .t p8
abbrev p9 : P := (.l (.r (.l .z)))
abbrev t9 : Opd := .t p9
abbrev p10 : P := (.r (.r (.l .z)))
abbrev t10 : Opd := .t p10
abbrev p11 : P := (.l (.l (.r .z)))
abbrev t11 : Opd := .t p11
abbrev p12 : P := (.r (.l (.r .z)))
abbrev t12 : Opd := .t p12
abbrev p13 : P := (.l (.r (.r .z)))
abbrev t13 : Opd := .t p13
abbrev p14 : P := (.r (.r (.r .z)))
abbrev t14 : Opd := .t p14
abbrev p15 : P := (.l (.l (.l (.l .z))))
abbrev t15 : Opd := .t p15
abbrev p16 : P := (.r (.l (.l (.l .z))))
abbrev t16 : Opd := .t p16
abbrev p17 : P := (.l (.r (.l (.l .z))))
abbrev t17 : Opd := .t p17
abbrev p18 : P := (.r (.r (.l (.l .z))))
abbrev t18 : Opd := .t p18
abbrev p19 : P := (.l (.l (.r (.l .z))))
abbrev t19 : Opd := .t p19
abbrev p20 : P := (.r (.l (.r (.l .z))))
abbrev t20 : Opd := .t p20
abbrev p21 : P := (.l (.r (.r (.l .z))))
abbrev t21 : Opd := .t p21
abbrev p22 : P := (.r (.r (.r (.l .z))))
abbrev t22 : Opd := .t p22
abbrev p23 : P := (.l (.l (.l (.r .z))))
abbrev t23 : Opd := .t p23
abbrev p24 : P := (.r (.l (.l (.r .z))))
abbrev t24 : Opd := .t p24
abbrev p25 : P := (.l (.r (.l (.r .z))))
abbrev t25 : Opd := .t p25
abbrev p26 : P := (.r (.r (.l (.r .z))))
abbrev t26 : Opd := .t p26
abbrev p27 : P := (.l (.l (.r (.r .z))))
abbrev t27 : Opd := .t p27
abbrev p28 : P := (.r (.l (.r (.r .z))))
abbrev t28 : Opd := .t p28
abbrev p29 : P := (.l (.r (.r (.r .z))))
abbrev t29 : Opd := .t p29
abbrev p30 : P := (.r (.r (.r (.r .z))))
abbrev t30 : Opd := .t p30
abbrev p31 : P := (.l (.l (.l (.l (.l .z)))))
abbrev t31 : Opd := .t p31
abbrev p32 : P := (.r (.l (.l (.l (.l .z)))))
abbrev t32 : Opd := .t p32
abbrev p33 : P := (.l (.r (.l (.l (.l .z)))))
abbrev t33 : Opd := .t p33
abbrev p34 : P := (.r (.r (.l (.l (.l .z)))))
abbrev t34 : Opd := .t p34
abbrev p35 : P := (.l (.l (.r (.l (.l .z)))))
abbrev t35 : Opd := .t p35
abbrev p36 : P := (.r (.l (.r (.l (.l .z)))))
abbrev t36 : Opd := .t p36
abbrev p37 : P := (.l (.r (.r (.l (.l .z)))))
abbrev t37 : Opd := .t p37
abbrev p38 : P := (.r (.r (.r (.l (.l .z)))))
abbrev t38 : Opd := .t p38
abbrev p39 : P := (.l (.l (.l (.r (.l .z)))))
abbrev t39 : Opd := .t p39
abbrev p40 : P := (.r (.l (.l (.r (.l .z)))))
abbrev t40 : Opd := .t p40
abbrev p41 : P := (.l (.r (.l (.r (.l .z)))))
abbrev t41 : Opd := .t p41
abbrev p42 : P := (.r (.r (.l (.r (.l .z)))))
abbrev t42 : Opd := .t p42
abbrev p43 : P := (.l (.l (.r (.r (.l .z)))))
abbrev t43 : Opd := .t p43
abbrev p44 : P := (.r (.l (.r (.r (.l .z)))))
abbrev t44 : Opd := .t p44
abbrev p45 : P := (.l (.r (.r (.r (.l .z)))))
abbrev t45 : Opd := .t p45
abbrev p46 : P := (.r (.r (.r (.r (.l .z)))))
abbrev t46 : Opd := .t p46
abbrev p47 : P := (.l (.l (.l (.l (.r .z)))))
abbrev t47 : Opd := .t p47
abbrev p48 : P := (.r (.l (.l (.l (.r .z)))))
abbrev t48 : Opd := .t p48
abbrev p49 : P := (.l (.r (.l (.l (.r .z)))))
abbrev t49 : Opd := .t p49
abbrev p50 : P := (.r (.r (.l (.l (.r .z)))))
abbrev t50 : Opd := .t p50
abbrev p51 : P := (.l (.l (.r (.l (.r .z)))))
abbrev t51 : Opd := .t p51
abbrev p52 : P := (.r (.l (.r (.l (.r .z)))))
abbrev t52 : Opd := .t p52
abbrev p53 : P := (.l (.r (.r (.l (.r .z)))))
abbrev t53 : Opd := .t p53
abbrev p54 : P := (.r (.r (.r (.l (.r .z)))))
abbrev t54 : Opd := .t p54
abbrev p55 : P := (.l (.l (.l (.r (.r .z)))))
abbrev t55 : Opd := .t p55
abbrev p56 : P := (.r (.l (.l (.r (.r .z)))))
abbrev t56 : Opd := .t p56
abbrev p57 : P := (.l (.r (.l (.r (.r .z)))))
abbrev t57 : Opd := .t p57
abbrev p58 : P := (.r (.r (.l (.r (.r .z)))))
abbrev t58 : Opd := .t p58
abbrev p59 : P := (.l (.l (.r (.r (.r .z)))))
abbrev t59 : Opd := .t p59
abbrev p60 : P := (.r (.l (.r (.r (.r .z)))))
abbrev t60 : Opd := .t p60
abbrev p61 : P := (.l (.r (.r (.r (.r .z)))))
abbrev t61 : Opd := .t p61
abbrev p62 : P := (.r (.r (.r (.r (.r .z)))))
abbrev t62 : Opd := .t p62
abbrev p63 : P := (.l (.l (.l (.l (.l (.l .z))))))
abbrev t63 : Opd := .t p63
abbrev p64 : P := (.r (.l (.l (.l (.l (.l .z))))))
abbrev t64 : Opd := .t p64
abbrev p65 : P := (.l (.r (.l (.l (.l (.l .z))))))
abbrev t65 : Opd := .t p65
abbrev p66 : P := (.r (.r (.l (.l (.l (.l .z))))))
abbrev t66 : Opd := .t p66
abbrev p67 : P := (.l (.l (.r (.l (.l (.l .z))))))
abbrev t67 : Opd := .t p67
abbrev p68 : P := (.r (.l (.r (.l (.l (.l .z))))))
abbrev t68 : Opd := .t p68
abbrev p69 : P := (.l (.r (.r (.l (.l (.l .z))))))
abbrev t69 : Opd := .t p69
abbrev p70 : P := (.r (.r (.r (.l (.l (.l .z))))))
abbrev t70 : Opd := .t p70
abbrev p71 : P := (.l (.l (.l (.r (.l (.l .z))))))
abbrev t71 : Opd := .t p71
abbrev p72 : P := (.r (.l (.l (.r (.l (.l .z))))))
abbrev t72 : Opd := .t p72
abbrev p73 : P := (.l (.r (.l (.r (.l (.l .z))))))
abbrev t73 : Opd := .t p73
abbrev p74 : P := (.r (.r (.l (.r (.l (.l .z))))))
abbrev t74 : Opd := .t p74
abbrev p75 : P := (.l (.l (.r (.r (.l (.l .z))))))
abbrev t75 : Opd := .t p75
abbrev p76 : P := (.r (.l (.r (.r (.l (.l .z))))))
abbrev t76 : Opd := .t p76
abbrev p77 : P := (.l (.r (.r (.r (.l (.l .z))))))
abbrev t77 : Opd := .t p77
abbrev p78 : P := (.r (.r (.r (.r (.l (.l .z))))))
abbrev t78 : Opd := .t p78
abbrev p79 : P := (.l (.l (.l (.l (.r (.l .z))))))
abbrev t79 : Opd := .t p79
abbrev p80 : P := (.r (.l (.l (.l (.r (.l .z))))))
abbrev t80 : Opd := .t p80
abbrev p81 : P := (.l (.r (.l (.l (.r (.l .z))))))
abbrev t81 : Opd := .t p81
abbrev p82 : P := (.r (.r (.l (.l (.r (.l .z))))))
abbrev t82 : Opd := .t p82
abbrev p83 : P := (.l (.l (.r (.l (.r (.l .z))))))
abbrev t83 : Opd := .t p83
abbrev p84 : P := (.r (.l (.r (.l (.r (.l .z))))))
abbrev t84 : Opd := .t p84
abbrev p85 : P := (.l (.r (.r (.l (.r (.l .z))))))
abbrev t85 : Opd := .t p85
abbrev p86 : P := (.r (.r (.r (.l (.r (.l .z))))))
abbrev t86 : Opd := .t p86
abbrev p87 : P := (.l (.l (.l (.r (.r (.l .z))))))
abbrev t87 : Opd := .t p87
abbrev p88 : P := (.r (.l (.l (.r (.r (.l .z))))))
abbrev t88 : Opd := .t p88
abbrev p89 : P := (.l (.r (.l (.r (.r (.l .z))))))
abbrev t89 : Opd := .t p89
abbrev p90 : P := (.r (.r (.l (.r (.r (.l .z))))))
abbrev t90 : Opd := .t p90
abbrev p91 : P := (.l (.l (.r (.r (.r (.l .z))))))
abbrev t91 : Opd := .t p91
abbrev p92 : P := (.r (.l (.r (.r (.r (.l .z))))))
abbrev t92 : Opd := .t p92
abbrev p93 : P := (.l (.r (.r (.r (.r (.l .z))))))
abbrev t93 : Opd := .t p93
abbrev p94 : P := (.r (.r (.r (.r (.r (.l .z))))))
abbrev t94 : Opd := .t p94
abbrev p95 : P := (.l (.l (.l (.l (.l (.r .z))))))
abbrev t95 : Opd := .t p95
abbrev p96 : P := (.r (.l (.l (.l (.l (.r .z))))))
abbrev t96 : Opd := .t p96
abbrev p97 : P := (.l (.r (.l (.l (.l (.r .z))))))
abbrev t97 : Opd := .t p97
abbrev p98 : P := (.r (.r (.l (.l (.l (.r .z))))))
abbrev t98 : Opd := .t p98
abbrev p99 : P := (.l (.l (.r (.l (.l (.r .z))))))
abbrev t99 : Opd := .t p99
abbrev p100 : P := (.r (.l (.r (.l (.l (.r .z))))))
abbrev t100 : Opd := .t p100
abbrev p101 : P := (.l (.r (.r (.l (.l (.r .z))))))
abbrev t101 : Opd := .t p101
abbrev p102 : P := (.r (.r (.r (.l (.l (.r .z))))))
abbrev t102 : Opd := .t p102
abbrev p103 : P := (.l (.l (.l (.r (.l (.r .z))))))
abbrev t103 : Opd := .t p103
abbrev p104 : P := (.r (.l (.l (.r (.l (.r .z))))))
abbrev t104 : Opd := .t p104
abbrev p105 : P := (.l (.r (.l (.r (.l (.r .z))))))
abbrev t105 : Opd := .t p105
abbrev p106 : P := (.r (.r (.l (.r (.l (.r .z))))))
abbrev t106 : Opd := .t p106
abbrev p107 : P := (.l (.l (.r (.r (.l (.r .z))))))
abbrev t107 : Opd := .t p107
abbrev p108 : P := (.r (.l (.r (.r (.l (.r .z))))))
abbrev t108 : Opd := .t p108
abbrev p109 : P := (.l (.r (.r (.r (.l (.r .z))))))
abbrev t109 : Opd := .t p109
abbrev p110 : P := (.r (.r (.r (.r (.l (.r .z))))))
abbrev t110 : Opd := .t p110
abbrev p111 : P := (.l (.l (.l (.l (.r (.r .z))))))
abbrev t111 : Opd := .t p111
abbrev p112 : P := (.r (.l (.l (.l (.r (.r .z))))))
abbrev t112 : Opd := .t p112
abbrev p113 : P := (.l (.r (.l (.l (.r (.r .z))))))
abbrev t113 : Opd := .t p113
abbrev p114 : P := (.r (.r (.l (.l (.r (.r .z))))))
abbrev t114 : Opd := .t p114
abbrev p115 : P := (.l (.l (.r (.l (.r (.r .z))))))
abbrev t115 : Opd := .t p115
abbrev p116 : P := (.r (.l (.r (.l (.r (.r .z))))))
abbrev t116 : Opd := .t p116
abbrev p117 : P := (.l (.r (.r (.l (.r (.r .z))))))
abbrev t117 : Opd := .t p117
abbrev p118 : P := (.r (.r (.r (.l (.r (.r .z))))))
abbrev t118 : Opd := .t p118
abbrev p119 : P := (.l (.l (.l (.r (.r (.r .z))))))
abbrev t119 : Opd := .t p119
abbrev p120 : P := (.r (.l (.l (.r (.r (.r .z))))))
abbrev t120 : Opd := .t p120
abbrev p121 : P := (.l (.r (.l (.r (.r (.r .z))))))
abbrev t121 : Opd := .t p121
abbrev p122 : P := (.r (.r (.l (.r (.r (.r .z))))))
abbrev t122 : Opd := .t p122
abbrev p123 : P := (.l (.l (.r (.r (.r (.r .z))))))
abbrev t123 : Opd := .t p123
abbrev p124 : P := (.r (.l (.r (.r (.r (.r .z))))))
abbrev t124 : Opd := .t p124
abbrev p125 : P := (.l (.r (.r (.r (.r (.r .z))))))
abbrev t125 : Opd := .t p125
abbrev p126 : P := (.r (.r (.r (.r (.r (.r .z))))))
abbrev t126 : Opd := .t p126
abbrev p127 : P := (.l (.l (.l (.l (.l (.l (.l .z)))))))
abbrev t127 : Opd := .t p127
abbrev p128 : P := (.r (.l (.l (.l (.l (.l (.l .z)))))))
abbrev t128 : Opd := .t p128
abbrev p129 : P := (.l (.r (.l (.l (.l (.l (.l .z)))))))
abbrev t129 : Opd := .t p129
abbrev p130 : P := (.r (.r (.l (.l (.l (.l (.l .z)))))))
abbrev t130 : Opd := .t p130
abbrev p131 : P := (.l (.l (.r (.l (.l (.l (.l .z)))))))
abbrev t131 : Opd := .t p131
abbrev p132 : P := (.r (.l (.r (.l (.l (.l (.l .z)))))))
abbrev t132 : Opd := .t p132
abbrev p133 : P := (.l (.r (.r (.l (.l (.l (.l .z)))))))
abbrev t133 : Opd := .t p133
abbrev p134 : P := (.r (.r (.r (.l (.l (.l (.l .z)))))))
abbrev t134 : Opd := .t p134
abbrev p135 : P := (.l (.l (.l (.r (.l (.l (.l .z)))))))
abbrev t135 : Opd := .t p135
abbrev p136 : P := (.r (.l (.l (.r (.l (.l (.l .z)))))))
abbrev t136 : Opd := .t p136
abbrev p137 : P := (.l (.r (.l (.r (.l (.l (.l .z)))))))
abbrev t137 : Opd := .t p137
abbrev p138 : P := (.r (.r (.l (.r (.l (.l (.l .z)))))))
abbrev t138 : Opd := .t p138
abbrev p139 : P := (.l (.l (.r (.r (.l (.l (.l .z)))))))
abbrev t139 : Opd := .t p139
abbrev p140 : P := (.r (.l (.r (.r (.l (.l (.l .z)))))))
abbrev t140 : Opd := .t p140
abbrev p141 : P := (.l (.r (.r (.r (.l (.l (.l .z)))))))
abbrev t141 : Opd := .t p141
abbrev p142 : P := (.r (.r (.r (.r (.l (.l (.l .z)))))))
abbrev t142 : Opd := .t p142
abbrev p143 : P := (.l (.l (.l (.l (.r (.l (.l .z)))))))
abbrev t143 : Opd := .t p143
abbrev p144 : P := (.r (.l (.l (.l (.r (.l (.l .z)))))))
abbrev t144 : Opd := .t p144
abbrev p145 : P := (.l (.r (.l (.l (.r (.l (.l .z)))))))
abbrev t145 : Opd := .t p145
abbrev p146 : P := (.r (.r (.l (.l (.r (.l (.l .z)))))))
abbrev t146 : Opd := .t p146
abbrev p147 : P := (.l (.l (.r (.l (.r (.l (.l .z)))))))
abbrev t147 : Opd := .t p147
abbrev p148 : P := (.r (.l (.r (.l (.r (.l (.l .z)))))))
abbrev t148 : Opd := .t p148
abbrev p149 : P := (.l (.r (.r (.l (.r (.l (.l .z)))))))
abbrev t149 : Opd := .t p149
abbrev p150 : P := (.r (.r (.r (.l (.r (.l (.l .z)))))))
abbrev t150 : Opd := .t p150
abbrev p151 : P := (.l (.l (.l (.r (.r (.l (.l .z)))))))
abbrev t151 : Opd := .t p151
abbrev p152 : P := (.r (.l (.l (.r (.r (.l (.l .z)))))))
abbrev t152 : Opd := .t p152
abbrev p153 : P := (.l (.r (.l (.r (.r (.l (.l .z)))))))
abbrev t153 : Opd := .t p153
abbrev p154 : P := (.r (.r (.l (.r (.r (.l (.l .z)))))))
abbrev t154 : Opd := .t p154
abbrev p155 : P := (.l (.l (.r (.r (.r (.l (.l .z)))))))
abbrev t155 : Opd := .t p155
abbrev p156 : P := (.r (.l (.r (.r (.r (.l (.l .z)))))))
abbrev t156 : Opd := .t p156
abbrev p157 : P := (.l (.r (.r (.r (.r (.l (.l .z)))))))
abbrev t157 : Opd := .t p157
abbrev p158 : P := (.r (.r (.r (.r (.r (.l (.l .z)))))))
abbrev t158 : Opd := .t p158
abbrev p159 : P := (.l (.l (.l (.l (.l (.r (.l .z)))))))
abbrev t159 : Opd := .t p159
abbrev p160 : P := (.r (.l (.l (.l (.l (.r (.l .z)))))))
abbrev t160 : Opd := .t p160
abbrev p161 : P := (.l (.r (.l (.l (.l (.r (.l .z)))))))
abbrev t161 : Opd := .t p161
abbrev p162 : P := (.r (.r (.l (.l (.l (.r (.l .z)))))))
abbrev t162 : Opd := .t p162
abbrev p163 : P := (.l (.l (.r (.l (.l (.r (.l .z)))))))
abbrev t163 : Opd := .t p163
abbrev p164 : P := (.r (.l (.r (.l (.l (.r (.l .z)))))))
abbrev t164 : Opd := .t p164
abbrev p165 : P := (.l (.r (.r (.l (.l (.r (.l .z)))))))
abbrev t165 : Opd := .t p165
abbrev p166 : P := (.r (.r (.r (.l (.l (.r (.l .z)))))))
abbrev t166 : Opd := .t p166
abbrev p167 : P := (.l (.l (.l (.r (.l (.r (.l .z)))))))
abbrev t167 : Opd := .t p167
abbrev p168 : P := (.r (.l (.l (.r (.l (.r (.l .z)))))))
abbrev t168 : Opd := .t p168
abbrev p169 : P := (.l (.r (.l (.r (.l (.r (.l .z)))))))
abbrev t169 : Opd := .t p169
abbrev p170 : P := (.r (.r (.l (.r (.l (.r (.l .z)))))))
abbrev t170 : Opd := .t p170
abbrev p171 : P := (.l (.l (.r (.r (.l (.r (.l .z)))))))
abbrev t171 : Opd := .t p171
abbrev p172 : P := (.r (.l (.r (.r (.l (.r (.l .z)))))))
abbrev t172 : Opd := .t p172
abbrev p173 : P := (.l (.r (.r (.r (.l (.r (.l .z)))))))
abbrev t173 : Opd := .t p173
abbrev p174 : P := (.r (.r (.r (.r (.l (.r (.l .z)))))))
abbrev t174 : Opd := .t p174
abbrev p175 : P := (.l (.l (.l (.l (.r (.r (.l .z)))))))
abbrev t175 : Opd := .t p175
abbrev p176 : P := (.r (.l (.l (.l (.r (.r (.l .z)))))))
abbrev t176 : Opd := .t p176
abbrev p177 : P := (.l (.r (.l (.l (.r (.r (.l .z)))))))
abbrev t177 : Opd := .t p177
abbrev p178 : P := (.r (.r (.l (.l (.r (.r (.l .z)))))))
abbrev t178 : Opd := .t p178
abbrev p179 : P := (.l (.l (.r (.l (.r (.r (.l .z)))))))
abbrev t179 : Opd := .t p179
abbrev p180 : P := (.r (.l (.r (.l (.r (.r (.l .z)))))))
abbrev t180 : Opd := .t p180
abbrev p181 : P := (.l (.r (.r (.l (.r (.r (.l .z)))))))
abbrev t181 : Opd := .t p181
abbrev p182 : P := (.r (.r (.r (.l (.r (.r (.l .z)))))))
abbrev t182 : Opd := .t p182
abbrev p183 : P := (.l (.l (.l (.r (.r (.r (.l .z)))))))
abbrev t183 : Opd := .t p183
abbrev p184 : P := (.r (.l (.l (.r (.r (.r (.l .z)))))))
abbrev t184 : Opd := .t p184
abbrev p185 : P := (.l (.r (.l (.r (.r (.r (.l .z)))))))
abbrev t185 : Opd := .t p185
abbrev p186 : P := (.r (.r (.l (.r (.r (.r (.l .z)))))))
abbrev t186 : Opd := .t p186
abbrev p187 : P := (.l (.l (.r (.r (.r (.r (.l .z)))))))
abbrev t187 : Opd := .t p187
abbrev p188 : P := (.r (.l (.r (.r (.r (.r (.l .z)))))))
abbrev t188 : Opd := .t p188
abbrev p189 : P := (.l (.r (.r (.r (.r (.r (.l .z)))))))
abbrev t189 : Opd := .t p189
abbrev p190 : P := (.r (.r (.r (.r (.r (.r (.l .z)))))))
abbrev t190 : Opd := .t p190
abbrev p191 : P := (.l (.l (.l (.l (.l (.l (.r .z)))))))
abbrev t191 : Opd := .t p191
abbrev p192 : P := (.r (.l (.l (.l (.l (.l (.r .z)))))))
abbrev t192 : Opd := .t p192
abbrev p193 : P := (.l (.r (.l (.l (.l (.l (.r .z)))))))
abbrev t193 : Opd := .t p193
abbrev p194 : P := (.r (.r (.l (.l (.l (.l (.r .z)))))))
abbrev t194 : Opd := .t p194
abbrev p195 : P := (.l (.l (.r (.l (.l (.l (.r .z)))))))
abbrev t195 : Opd := .t p195
abbrev p196 : P := (.r (.l (.r (.l (.l (.l (.r .z)))))))
abbrev t196 : Opd := .t p196
abbrev p197 : P := (.l (.r (.r (.l (.l (.l (.r .z)))))))
abbrev t197 : Opd := .t p197
abbrev p198 : P := (.r (.r (.r (.l (.l (.l (.r .z)))))))
abbrev t198 : Opd := .t p198
abbrev p199 : P := (.l (.l (.l (.r (.l (.l (.r .z)))))))
abbrev t199 : Opd := .t p199
abbrev p200 : P := (.r (.l (.l (.r (.l (.l (.r .z)))))))
abbrev t200 : Opd := .t p200
abbrev p201 : P := (.l (.r (.l (.r (.l (.l (.r .z)))))))
abbrev t201 : Opd := .t p201
abbrev p202 : P := (.r (.r (.l (.r (.l (.l (.r .z)))))))
abbrev t202 : Opd := .t p202
abbrev p203 : P := (.l (.l (.r (.r (.l (.l (.r .z)))))))
abbrev t203 : Opd := .t p203
abbrev p204 : P := (.r (.l (.r (.r (.l (.l (.r .z)))))))
abbrev t204 : Opd := .t p204
abbrev p205 : P := (.l (.r (.r (.r (.l (.l (.r .z)))))))
abbrev t205 : Opd := .t p205
abbrev p206 : P := (.r (.r (.r (.r (.l (.l (.r .z)))))))
abbrev t206 : Opd := .t p206
abbrev p207 : P := (.l (.l (.l (.l (.r (.l (.r .z)))))))
abbrev t207 : Opd := .t p207
abbrev p208 : P := (.r (.l (.l (.l (.r (.l (.r .z)))))))
abbrev t208 : Opd := .t p208
abbrev p209 : P := (.l (.r (.l (.l (.r (.l (.r .z)))))))
abbrev t209 : Opd := .t p209
abbrev p210 : P := (.r (.r (.l (.l (.r (.l (.r .z)))))))
abbrev t210 : Opd := .t p210
abbrev p211 : P := (.l (.l (.r (.l (.r (.l (.r .z)))))))
abbrev t211 : Opd := .t p211
abbrev p212 : P := (.r (.l (.r (.l (.r (.l (.r .z)))))))
abbrev t212 : Opd := .t p212
abbrev p213 : P := (.l (.r (.r (.l (.r (.l (.r .z)))))))
abbrev t213 : Opd := .t p213
abbrev p214 : P := (.r (.r (.r (.l (.r (.l (.r .z)))))))
abbrev t214 : Opd := .t p214
abbrev p215 : P := (.l (.l (.l (.r (.r (.l (.r .z)))))))
abbrev t215 : Opd := .t p215
abbrev p216 : P := (.r (.l (.l (.r (.r (.l (.r .z)))))))
abbrev t216 : Opd := .t p216
abbrev p217 : P := (.l (.r (.l (.r (.r (.l (.r .z)))))))
abbrev t217 : Opd := .t p217
abbrev p218 : P := (.r (.r (.l (.r (.r (.l (.r .z)))))))
abbrev t218 : Opd := .t p218
abbrev p219 : P := (.l (.l (.r (.r (.r (.l (.r .z)))))))
abbrev t219 : Opd := .t p219
abbrev p220 : P := (.r (.l (.r (.r (.r (.l (.r .z)))))))
abbrev t220 : Opd := .t p220
abbrev p221 : P := (.l (.r (.r (.r (.r (.l (.r .z)))))))
abbrev t221 : Opd := .t p221
abbrev p222 : P := (.r (.r (.r (.r (.r (.l (.r .z)))))))
abbrev t222 : Opd := .t p222
abbrev p223 : P := (.l (.l (.l (.l (.l (.r (.r .z)))))))
abbrev t223 : Opd := .t p223
abbrev p224 : P := (.r (.l (.l (.l (.l (.r (.r .z)))))))
abbrev t224 : Opd := .t p224
abbrev p225 : P := (.l (.r (.l (.l (.l (.r (.r .z)))))))
abbrev t225 : Opd := .t p225
abbrev p226 : P := (.r (.r (.l (.l (.l (.r (.r .z)))))))
abbrev t226 : Opd := .t p226
abbrev p227 : P := (.l (.l (.r (.l (.l (.r (.r .z)))))))
abbrev t227 : Opd := .t p227
abbrev p228 : P := (.r (.l (.r (.l (.l (.r (.r .z)))))))
abbrev t228 : Opd := .t p228
abbrev p229 : P := (.l (.r (.r (.l (.l (.r (.r .z)))))))
abbrev t229 : Opd := .t p229
abbrev p230 : P := (.r (.r (.r (.l (.l (.r (.r .z)))))))
abbrev t230 : Opd := .t p230
abbrev p231 : P := (.l (.l (.l (.r (.l (.r (.r .z)))))))
abbrev t231 : Opd := .t p231
abbrev p232 : P := (.r (.l (.l (.r (.l (.r (.r .z)))))))
abbrev t232 : Opd := .t p232
abbrev p233 : P := (.l (.r (.l (.r (.l (.r (.r .z)))))))
abbrev t233 : Opd := .t p233
abbrev p234 : P := (.r (.r (.l (.r (.l (.r (.r .z)))))))
abbrev t234 : Opd := .t p234
abbrev p235 : P := (.l (.l (.r (.r (.l (.r (.r .z)))))))
abbrev t235 : Opd := .t p235
abbrev p236 : P := (.r (.l (.r (.r (.l (.r (.r .z)))))))
abbrev t236 : Opd := .t p236
abbrev p237 : P := (.l (.r (.r (.r (.l (.r (.r .z)))))))
abbrev t237 : Opd := .t p237
abbrev p238 : P := (.r (.r (.r (.r (.l (.r (.r .z)))))))
abbrev t238 : Opd := .t p238
abbrev p239 : P := (.l (.l (.l (.l (.r (.r (.r .z)))))))
abbrev t239 : Opd := .t p239
abbrev p240 : P := (.r (.l (.l (.l (.r (.r (.r .z)))))))
abbrev t240 : Opd := .t p240
abbrev p241 : P := (.l (.r (.l (.l (.r (.r (.r .z)))))))
abbrev t241 : Opd := .t p241
abbrev p242 : P := (.r (.r (.l (.l (.r (.r (.r .z)))))))
abbrev t242 : Opd := .t p242
abbrev p243 : P := (.l (.l (.r (.l (.r (.r (.r .z)))))))
abbrev t243 : Opd := .t p243
abbrev p244 : P := (.r (.l (.r (.l (.r (.r (.r .z)))))))
abbrev t244 : Opd := .t p244
abbrev p245 : P := (.l (.r (.r (.l (.r (.r (.r .z)))))))
abbrev t245 : Opd := .t p245
abbrev p246 : P := (.r (.r (.r (.l (.r (.r (.r .z)))))))
abbrev t246 : Opd := .t p246
abbrev p247 : P := (.l (.l (.l (.r (.r (.r (.r .z)))))))
abbrev t247 : Opd := .t p247
abbrev p248 : P := (.r (.l (.l (.r (.r (.r (.r .z)))))))
abbrev t248 : Opd := .t p248
abbrev p249 : P := (.l (.r (.l (.r (.r (.r (.r .z)))))))
abbrev t249 : Opd := .t p249
abbrev p250 : P := (.r (.r (.l (.r (.r (.r (.r .z)))))))
abbrev t250 : Opd := .t p250
abbrev p251 : P := (.l (.l (.r (.r (.r (.r (.r .z)))))))
abbrev t251 : Opd := .t p251
abbrev p252 : P := (.r (.l (.r (.r (.r (.r (.r .z)))))))
abbrev t252 : Opd := .t p252
abbrev p253 : P := (.l (.r (.r (.r (.r (.r (.r .z)))))))
abbrev t253 : Opd := .t p253
abbrev p254 : P := (.r (.r (.r (.r (.r (.r (.r .z)))))))
abbrev t254 : Opd := .t p254
abbrev p255 : P := (.l (.l (.l (.l (.l (.l (.l (.l .z))))))))
abbrev t255 : Opd := .t p255
abbrev p256 : P := (.r (.l (.l (.l (.l (.l (.l (.l .z))))))))
abbrev t256 : Opd := .t p256
abbrev p257 : P := (.l (.r (.l (.l (.l (.l (.l (.l .z))))))))
abbrev t257 : Opd := .t p257
abbrev p258 : P := (.r (.r (.l (.l (.l (.l (.l (.l .z))))))))
abbrev t258 : Opd := .t p258
abbrev p259 : P := (.l (.l (.r (.l (.l (.l (.l (.l .z))))))))
abbrev t259 : Opd := .t p259
abbrev p260 : P := (.r (.l (.r (.l (.l (.l (.l (.l .z))))))))
abbrev t260 : Opd := .t p260
abbrev p261 : P := (.l (.r (.r (.l (.l (.l (.l (.l .z))))))))
abbrev t261 : Opd := .t p261
abbrev p262 : P := (.r (.r (.r (.l (.l (.l (.l (.l .z))))))))
abbrev t262 : Opd := .t p262
abbrev p263 : P := (.l (.l (.l (.r (.l (.l (.l (.l .z))))))))
abbrev t263 : Opd := .t p263
abbrev p264 : P := (.r (.l (.l (.r (.l (.l (.l (.l .z))))))))
abbrev t264 : Opd := .t p264
abbrev p265 : P := (.l (.r (.l (.r (.l (.l (.l (.l .z))))))))
abbrev t265 : Opd := .t p265
abbrev p266 : P := (.r (.r (.l (.r (.l (.l (.l (.l .z))))))))
abbrev t266 : Opd := .t p266
abbrev p267 : P := (.l (.l (.r (.r (.l (.l (.l (.l .z))))))))
abbrev t267 : Opd := .t p267
abbrev p268 : P := (.r (.l (.r (.r (.l (.l (.l (.l .z))))))))
abbrev t268 : Opd := .t p268
abbrev p269 : P := (.l (.r (.r (.r (.l (.l (.l (.l .z))))))))
abbrev t269 : Opd := .t p269
abbrev p270 : P := (.r (.r (.r (.r (.l (.l (.l (.l .z))))))))
abbrev t270 : Opd := .t p270
abbrev p271 : P := (.l (.l (.l (.l (.r (.l (.l (.l .z))))))))
abbrev t271 : Opd := .t p271
abbrev p272 : P := (.r (.l (.l (.l (.r (.l (.l (.l .z))))))))
abbrev t272 : Opd := .t p272
abbrev p273 : P := (.l (.r (.l (.l (.r (.l (.l (.l .z))))))))
abbrev t273 : Opd := .t p273
abbrev p274 : P := (.r (.r (.l (.l (.r (.l (.l (.l .z))))))))
abbrev t274 : Opd := .t p274
abbrev p275 : P := (.l (.l (.r (.l (.r (.l (.l (.l .z))))))))
abbrev t275 : Opd := .t p275
abbrev p276 : P := (.r (.l (.r (.l (.r (.l (.l (.l .z))))))))
abbrev t276 : Opd := .t p276
abbrev p277 : P := (.l (.r (.r (.l (.r (.l (.l (.l .z))))))))
abbrev t277 : Opd := .t p277
abbrev p278 : P := (.r (.r (.r (.l (.r (.l (.l (.l .z))))))))
abbrev t278 : Opd := .t p278
abbrev p279 : P := (.l (.l (.l (.r (.r (.l (.l (.l .z))))))))
abbrev t279 : Opd := .t p279
abbrev p280 : P := (.r (.l (.l (.r (.r (.l (.l (.l .z))))))))
abbrev t280 : Opd := .t p280
abbrev p281 : P := (.l (.r (.l (.r (.r (.l (.l (.l .z))))))))
abbrev t281 : Opd := .t p281
abbrev p282 : P := (.r (.r (.l (.r (.r (.l (.l (.l .z))))))))
abbrev t282 : Opd := .t p282
abbrev p283 : P := (.l (.l (.r (.r (.r (.l (.l (.l .z))))))))
abbrev t283 : Opd := .t p283
abbrev p284 : P := (.r (.l (.r (.r (.r (.l (.l (.l .z))))))))
abbrev t284 : Opd := .t p284
abbrev p285 : P := (.l (.r (.r (.r (.r (.l (.l (.l .z))))))))
abbrev t285 : Opd := .t p285
abbrev p286 : P := (.r (.r (.r (.r (.r (.l (.l (.l .z))))))))
abbrev t286 : Opd := .t p286
abbrev p287 : P := (.l (.l (.l (.l (.l (.r (.l (.l .z))))))))
abbrev t287 : Opd := .t p287
abbrev p288 : P := (.r (.l (.l (.l (.l (.r (.l (.l .z))))))))
abbrev t288 : Opd := .t p288
abbrev p289 : P := (.l (.r (.l (.l (.l (.r (.l (.l .z))))))))
abbrev t289 : Opd := .t p289
abbrev p290 : P := (.r (.r (.l (.l (.l (.r (.l (.l .z))))))))
abbrev t290 : Opd := .t p290
abbrev p291 : P := (.l (.l (.r (.l (.l (.r (.l (.l .z))))))))
abbrev t291 : Opd := .t p291
abbrev p292 : P := (.r (.l (.r (.l (.l (.r (.l (.l .z))))))))
abbrev t292 : Opd := .t p292
abbrev p293 : P := (.l (.r (.r (.l (.l (.r (.l (.l .z))))))))
abbrev t293 : Opd := .t p293
abbrev p294 : P := (.r (.r (.r (.l (.l (.r (.l (.l .z))))))))
abbrev t294 : Opd := .t p294
abbrev p295 : P := (.l (.l (.l (.r (.l (.r (.l (.l .z))))))))
abbrev t295 : Opd := .t p295
abbrev p296 : P := (.r (.l (.l (.r (.l (.r (.l (.l .z))))))))
abbrev t296 : Opd := .t p296
abbrev p297 : P := (.l (.r (.l (.r (.l (.r (.l (.l .z))))))))
abbrev t297 : Opd := .t p297
abbrev p298 : P := (.r (.r (.l (.r (.l (.r (.l (.l .z))))))))
abbrev t298 : Opd := .t p298
abbrev p299 : P := (.l (.l (.r (.r (.l (.r (.l (.l .z))))))))
abbrev t299 : Opd := .t p299
abbrev p300 : P := (.r (.l (.r (.r (.l (.r (.l (.l .z))))))))
abbrev t300 : Opd := .t p300
abbrev p301 : P := (.l (.r (.r (.r (.l (.r (.l (.l .z))))))))
abbrev t301 : Opd := .t p301
abbrev p302 : P := (.r (.r (.r (.r (.l (.r (.l (.l .z))))))))
abbrev t302 : Opd := .t p302
abbrev p303 : P := (.l (.l (.l (.l (.r (.r (.l (.l .z))))))))
abbrev t303 : Opd := .t p303
abbrev p304 : P := (.r (.l (.l (.l (.r (.r (.l (.l .z))))))))
abbrev t304 : Opd := .t p304
abbrev p305 : P := (.l (.r (.l (.l (.r (.r (.l (.l .z))))))))
abbrev t305 : Opd := .t p305
abbrev p306 : P := (.r (.r (.l (.l (.r (.r (.l (.l .z))))))))
abbrev t306 : Opd := .t p306
abbrev p307 : P := (.l (.l (.r (.l (.r (.r (.l (.l .z))))))))
abbrev t307 : Opd := .t p307
abbrev p308 : P := (.r (.l (.r (.l (.r (.r (.l (.l .z))))))))
abbrev t308 : Opd := .t p308
abbrev p309 : P := (.l (.r (.r (.l (.r (.r (.l (.l .z))))))))
abbrev t309 : Opd := .t p309
abbrev p310 : P := (.r (.r (.r (.l (.r (.r (.l (.l .z))))))))
abbrev t310 : Opd := .t p310
abbrev p311 : P := (.l (.l (.l (.r (.r (.r (.l (.l .z))))))))
abbrev t311 : Opd := .t p311
abbrev p312 : P := (.r (.l (.l (.r (.r (.r (.l (.l .z))))))))
abbrev t312 : Opd := .t p312
abbrev p313 : P := (.l (.r (.l (.r (.r (.r (.l (.l .z))))))))
abbrev t313 : Opd := .t p313
abbrev p314 : P := (.r (.r (.l (.r (.r (.r (.l (.l .z))))))))
abbrev t314 : Opd := .t p314
abbrev p315 : P := (.l (.l (.r (.r (.r (.r (.l (.l .z))))))))
abbrev t315 : Opd := .t p315
abbrev p316 : P := (.r (.l (.r (.r (.r (.r (.l (.l .z))))))))
abbrev t316 : Opd := .t p316
abbrev p317 : P := (.l (.r (.r (.r (.r (.r (.l (.l .z))))))))
abbrev t317 : Opd := .t p317
abbrev p318 : P := (.r (.r (.r (.r (.r (.r (.l (.l .z))))))))
abbrev t318 : Opd := .t p318
abbrev p319 : P := (.l (.l (.l (.l (.l (.l (.r (.l .z))))))))
abbrev t319 : Opd := .t p319
abbrev p320 : P := (.r (.l (.l (.l (.l (.l (.r (.l .z))))))))
abbrev t320 : Opd := .t p320
abbrev p321 : P := (.l (.r (.l (.l (.l (.l (.r (.l .z))))))))
abbrev t321 : Opd := .t p321
abbrev p322 : P := (.r (.r (.l (.l (.l (.l (.r (.l .z))))))))
abbrev t322 : Opd := .t p322
abbrev p323 : P := (.l (.l (.r (.l (.l (.l (.r (.l .z))))))))
abbrev t323 : Opd := .t p323
abbrev p324 : P := (.r (.l (.r (.l (.l (.l (.r (.l .z))))))))
abbrev t324 : Opd := .t p324
abbrev p325 : P := (.l (.r (.r (.l (.l (.l (.r (.l .z))))))))
abbrev t325 : Opd := .t p325
abbrev p326 : P := (.r (.r (.r (.l (.l (.l (.r (.l .z))))))))
abbrev t326 : Opd := .t p326
abbrev p327 : P := (.l (.l (.l (.r (.l (.l (.r (.l .z))))))))
abbrev t327 : Opd := .t p327
abbrev p328 : P := (.r (.l (.l (.r (.l (.l (.r (.l .z))))))))
abbrev t328 : Opd := .t p328
abbrev p329 : P := (.l (.r (.l (.r (.l (.l (.r (.l .z))))))))
abbrev t329 : Opd := .t p329
abbrev p330 : P := (.r (.r (.l (.r (.l (.l (.r (.l .z))))))))
abbrev t330 : Opd := .t p330
abbrev p331 : P := (.l (.l (.r (.r (.l (.l (.r (.l .z))))))))
abbrev t331 : Opd := .t p331
abbrev p332 : P := (.r (.l (.r (.r (.l (.l (.r (.l .z))))))))
abbrev t332 : Opd := .t p332
abbrev p333 : P := (.l (.r (.r (.r (.l (.l (.r (.l .z))))))))
abbrev t333 : Opd := .t p333
abbrev p334 : P := (.r (.r (.r (.r (.l (.l (.r (.l .z))))))))
abbrev t334 : Opd := .t p334
abbrev p335 : P := (.l (.l (.l (.l (.r (.l (.r (.l .z))))))))
abbrev t335 : Opd := .t p335
abbrev p336 : P := (.r (.l (.l (.l (.r (.l (.r (.l .z))))))))
abbrev t336 : Opd := .t p336
abbrev p337 : P := (.l (.r (.l (.l (.r (.l (.r (.l .z))))))))
abbrev t337 : Opd := .t p337
abbrev p338 : P := (.r (.r (.l (.l (.r (.l (.r (.l .z))))))))
abbrev t338 : Opd := .t p338
abbrev p339 : P := (.l (.l (.r (.l (.r (.l (.r (.l .z))))))))
abbrev t339 : Opd := .t p339
abbrev p340 : P := (.r (.l (.r (.l (.r (.l (.r (.l .z))))))))
abbrev t340 : Opd := .t p340
abbrev p341 : P := (.l (.r (.r (.l (.r (.l (.r (.l .z))))))))
abbrev t341 : Opd := .t p341
abbrev p342 : P := (.r (.r (.r (.l (.r (.l (.r (.l .z))))))))
abbrev t342 : Opd := .t p342
abbrev p343 : P := (.l (.l (.l (.r (.r (.l (.r (.l .z))))))))
abbrev t343 : Opd := .t p343
abbrev p344 : P := (.r (.l (.l (.r (.r (.l (.r (.l .z))))))))
abbrev t344 : Opd := .t p344
abbrev p345 : P := (.l (.r (.l (.r (.r (.l (.r (.l .z))))))))
abbrev t345 : Opd := .t p345
abbrev p346 : P := (.r (.r (.l (.r (.r (.l (.r (.l .z))))))))
abbrev t346 : Opd := .t p346
abbrev p347 : P := (.l (.l (.r (.r (.r (.l (.r (.l .z))))))))
abbrev t347 : Opd := .t p347
abbrev p348 : P := (.r (.l (.r (.r (.r (.l (.r (.l .z))))))))
abbrev t348 : Opd := .t p348
abbrev p349 : P := (.l (.r (.r (.r (.r (.l (.r (.l .z))))))))
abbrev t349 : Opd := .t p349
abbrev p350 : P := (.r (.r (.r (.r (.r (.l (.r (.l .z))))))))
abbrev t350 : Opd := .t p350
abbrev p351 : P := (.l (.l (.l (.l (.l (.r (.r (.l .z))))))))
abbrev t351 : Opd := .t p351
abbrev p352 : P := (.r (.l (.l (.l (.l (.r (.r (.l .z))))))))
abbrev t352 : Opd := .t p352
/- delver/delverlaw15.ShadeExact -/
def f5 : Fd := .mk [p0, p1, p2, p3, p4]
 (.seq (.reg [.locb p8 t3,
  .mk (some p10) none (.mv (.c (.bool false)))])
 (.seq (.seq (.reg [.mk (some p39) none (.mv t0),
  .mk (some p40) none (.call p15 [t39]),
  .mk (some p41) none (.mv t40),
  .mk (some p42) (some (p41, false)) (.mv t2),
  .mk (some p43) (some (p41, false)) (.len t42),
  .mk (some p44) (some (p41, false)) (.bin .gt t43 (.c (.int .i64 (.ofNat 80)))),
  .mk (some p45) none (.pick t41 (.c (.bool true)) t44),
  .mk (some p46) none (.mv t45),
  .mk (some p47) (some (p46, false)) (.fa 1 t8),
  .mk (some p48) (some (p46, false)) (.ld t47),
  .mk (some p49) (some (p46, false)) (.len t48),
  .mk (some p50) (some (p46, false)) (.bin .gt t49 (.c (.int .i64 (.ofNat 60)))),
  .mk (some p51) none (.pick t46 (.c (.bool true)) t50)])
 (.cond t51 (.seq (.reg [.mk (some p10) none (.mv (.c (.bool true)))])
 .ret) .skip))
 (.seq (.reg [.mk (some p52) none (.mv t0),
  .mk (some p53) none (.call p23 [t52]),
  .mk (some p11) none (.mv t53)])
 (.seq (.reg [.mk (some p55) none (.mv t11),
  .mk (some p56) none (.mv t1),
  .mk (some p57) none (.call p24 [t55, t56]),
  .mk (some p54) none (.mv t57),
  .mk (some p58) none (.ex t54 0),
  .mk (some p59) none (.ex t54 1),
  .mk (some p12) none (.mv t58),
  .mk (some p13) none (.mv t59)])
 (.seq (.reg [.mk (some p61) none (.mv t11),
  .mk (some p62) none (.mv t1),
  .mk (some p63) none (.call p21 [t61, t62]),
  .mk (some p60) none (.mv t63),
  .mk (some p64) none (.ex t60 0),
  .mk (some p65) none (.ex t60 1),
  .mk (some p14) none (.mv t64),
  .mk (some p15) none (.mv t65)])
 (.seq (.reg [.mk (some p67) none (.mv t11),
  .mk (some p68) none (.mv t1),
  .mk (some p69) none (.mv t2),
  .mk (some p70) none (.call p25 [t67, t68, t69]),
  .mk (some p66) none (.mv t70),
  .mk (some p71) none (.ex t66 0),
  .mk (some p72) none (.ex t66 1),
  .mk (some p73) none (.ex t66 2),
  .mk (some p16) none (.mv t71),
  .mk (some p17) none (.mv t72),
  .mk (some p18) none (.mv t73)])
 (.seq (.reg [.mk (some p75) none (.mv t11),
  .mk (some p76) none (.call p17 [t75]),
  .mk (some p74) none (.mv t76),
  .mk (some p77) none (.ex t74 0),
  .mk (some p78) none (.ex t74 1),
  .mk (some p79) none (.ex t74 2),
  .mk (some p19) none (.mv t77),
  .mk (some p20) none (.mv t78),
  .mk (some p21) none (.mv t79)])
 (.seq (.reg [.mk (some p81) none (.mv t11),
  .mk (some p82) none (.mv t1),
  .mk (some p83) none (.lda 2 t8),
  .mk (some p84) none (.call p26 [t81, t82, t83]),
  .mk (some p80) none (.mv t84),
  .mk (some p85) none (.ex t80 0),
  .mk (some p86) none (.ex t80 1),
  .mk (some p22) none (.mv t85),
  .mk (some p23) none (.mv t86)])
 (.seq (.seq (.reg [.mk (some p87) none (.mv t11),
  .mk (some p88) none (.mv t0),
  .mk (some p89) none (.call p22 [t87, t88]),
  .mk (some p90) none (.not t89)])
 (.cond t90 (.seq (.reg [.mk (some p10) none (.mv (.c (.bool false)))])
 .ret) .skip))
 (.seq (.reg [.mk (some p91) none (.mv t0),
  .mk (some p92) none (.call p16 [t91]),
  .mk (some p24) none (.mv t92)])
 (.seq (.reg [.mk (some p93) none (.mv t24),
  .mk (some p94) none (.mv t93),
  .mk (some p95) (some (p94, true)) (.mv t1),
  .mk (some p96) (some (p94, true)) (.bin .ge t95 (.c (.int .i64 (.ofNat 0)))),
  .mk (some p97) none (.pick t94 t96 (.c (.bool false))),
  .mk (some p98) none (.mv t97),
  .mk (some p99) (some (p98, true)) (.mv t1),
  .mk (some p100) (some (p98, true)) (.bin .lt t99 (.c (.int .i64 (.ofNat 40)))),
  .mk (some p101) none (.pick t98 t100 (.c (.bool false))),
  .mk (some p25) none (.mv t101)])
 (.seq (.seq (.reg [.mk (some p102) none (.mv t24),
  .mk (some p103) none (.not t102)])
 (.cond t103 (.seq (.reg [.mk (some p104) none (.mv t21),
  .mk (some p105) none (.bin .ne t104 (.c (.int .i64 (.ofNat 1)))),
  .mk (some p106) none (.mv t105),
  .mk (some p107) (some (p106, false)) (.mv t19),
  .mk (some p108) (some (p106, false)) (.mv t20),
  .mk (some p109) (some (p106, false)) (.bin .add t107 t108),
  .mk (some p110) (some (p106, false)) (.bin .ne t109 (.c (.int .i64 (.ofNat 0)))),
  .mk (some p111) none (.pick t106 (.c (.bool true)) t110)])
 (.cond t111 (.seq (.reg [.mk (some p10) none (.mv (.c (.bool false)))])
 .ret) .skip)) (.seq (.reg [.mk (some p113) none (.mv t0),
  .mk (some p114) none (.call p27 [t113]),
  .mk (some p112) none (.mv t114),
  .mk (some p115) none (.ex t112 0),
  .mk (some p116) none (.ex t112 1),
  .mk (some p26) none (.mv t115),
  .mk (some p27) none (.mv t116)])
 (.seq (.reg [.mk (some p117) none (.mv t26),
  .mk (some p118) none (.bin .lt t117 (.c (.int .i64 (.ofNat 0))))])
 (.cond t118 (.seq (.reg [.mk (some p119) none (.mv t21),
  .mk (some p120) none (.bin .ne t119 (.c (.int .i64 (.ofNat 5)))),
  .mk (some p121) none (.mv t120),
  .mk (some p122) (some (p121, false)) (.mv t19),
  .mk (some p123) (some (p121, false)) (.mv t20),
  .mk (some p124) (some (p121, false)) (.bin .add t122 t123),
  .mk (some p125) (some (p121, false)) (.bin .ne t124 (.c (.int .i64 (.ofNat 0)))),
  .mk (some p126) none (.pick t121 (.c (.bool true)) t125)])
 (.cond t126 (.seq (.reg [.mk (some p10) none (.mv (.c (.bool false)))])
 .ret) .skip)) (.seq (.reg [.mk (some p127) none (.mv t21),
  .mk (some p128) none (.bin .ne t127 (.c (.int .i64 (.ofNat 0)))),
  .mk (some p129) none (.mv t128),
  .mk (some p130) (some (p129, false)) (.mv t19),
  .mk (some p131) (some (p129, false)) (.mv t26),
  .mk (some p132) (some (p129, false)) (.bin .ne t130 t131),
  .mk (some p133) none (.pick t129 (.c (.bool true)) t132),
  .mk (some p134) none (.mv t133),
  .mk (some p135) (some (p134, false)) (.mv t20),
  .mk (some p136) (some (p134, false)) (.mv t27),
  .mk (some p137) (some (p134, false)) (.bin .ne t135 t136),
  .mk (some p138) none (.pick t134 (.c (.bool true)) t137)])
 (.cond t138 (.seq (.reg [.mk (some p10) none (.mv (.c (.bool false)))])
 .ret) .skip)))))))
 (.seq (.seq (.reg [.mk (some p139) none (.mv t25),
  .mk (some p140) none (.not t139)])
 (.cond t140 (.seq (.reg [.mk (some p141) none (.mv t13),
  .mk (some p142) none (.bin .eq t141 (.c (.int .i64 (.ofNat 1)))),
  .mk (some p143) none (.mv t142),
  .mk (some p144) (some (p143, true)) (.mv t15),
  .mk (some p145) (some (p143, true)) (.bin .eq t144 (.c (.int .i64 (.ofNat 1)))),
  .mk (some p146) none (.pick t143 t145 (.c (.bool false))),
  .mk (some p147) none (.mv t146),
  .mk (some p148) (some (p147, true)) (.mv t18),
  .mk (some p149) (some (p147, true)) (.bin .eq t148 (.c (.int .i64 (.ofNat 1)))),
  .mk (some p150) none (.pick t147 t149 (.c (.bool false))),
  .mk (some p151) none (.mv t150),
  .mk (some p152) (some (p151, true)) (.mv t23),
  .mk (some p153) (some (p151, true)) (.bin .eq t152 (.c (.int .i64 (.ofNat 1)))),
  .mk (some p154) none (.pick t151 t153 (.c (.bool false))),
  .mk (some p155) none (.mv t154),
  .mk (some p156) (some (p155, true)) (.mv t12),
  .mk (some p157) (some (p155, true)) (.not t156),
  .mk (some p158) none (.pick t155 t157 (.c (.bool false))),
  .mk (some p159) none (.mv t158),
  .mk (some p160) (some (p159, true)) (.mv t14),
  .mk (some p161) (some (p159, true)) (.len t160),
  .mk (some p162) (some (p159, true)) (.mv t22),
  .mk (some p163) (some (p159, true)) (.len t162),
  .mk (some p164) (some (p159, true)) (.bin .add t161 t163),
  .mk (some p165) (some (p159, true)) (.mv t16),
  .mk (some p166) (some (p159, true)) (.bin .add t164 t165),
  .mk (some p167) (some (p159, true)) (.mv t17),
  .mk (some p168) (some (p159, true)) (.bin .add t166 t167),
  .mk (some p169) (some (p159, true)) (.bin .eq t168 (.c (.int .i64 (.ofNat 0)))),
  .mk (some p170) none (.pick t159 t169 (.c (.bool false))),
  .mk (some p171) none (.mv t170),
  .mk (some p172) (some (p171, true)) (.call p18 []),
  .mk (some p173) none (.pick t171 t172 (.c (.bool false))),
  .mk (some p10) none (.mv t173)])
 .ret) .skip))
 (.seq (.seq (.reg [.mk (some p174) none (.lda 2 t8),
  .mk (some p175) none (.call p28 [t174]),
  .mk (some p176) none (.not t175)])
 (.cond t176 (.seq (.reg [.mk (some p177) none (.mv t23),
  .mk (some p178) none (.bin .ne t177 (.c (.int .i64 (.ofNat 1)))),
  .mk (some p179) none (.mv t178),
  .mk (some p180) (some (p179, false)) (.mv t22),
  .mk (some p181) (some (p179, false)) (.len t180),
  .mk (some p182) (some (p179, false)) (.bin .ne t181 (.c (.int .i64 (.ofNat 0)))),
  .mk (some p183) none (.pick t179 (.c (.bool true)) t182)])
 (.cond t183 (.seq (.reg [.mk (some p10) none (.mv (.c (.bool false)))])
 .ret) .skip)) (.seq (.reg [.mk (some p185) none (.mv t0),
  .mk (some p186) none (.mv t1),
  .mk (some p187) none (.lda 2 t8),
  .mk (some p188) none (.call p29 [t185, t186, t187]),
  .mk (some p184) none (.mv t188),
  .mk (some p189) none (.ex t184 0),
  .mk (some p190) none (.ex t184 1),
  .mk (some p28) none (.mv t189),
  .mk (some p29) none (.mv t190)])
 (.seq (.reg [.mk (some p191) none (.mv t29),
  .mk (some p192) none (.mv t191),
  .mk (some p193) (some (p192, true)) (.mv t23),
  .mk (some p194) (some (p192, true)) (.bin .ne t193 (.c (.int .i64 (.ofNat 0)))),
  .mk (some p195) (some (p192, true)) (.mv t194),
  .mk (some p196) (some (p195, false)) (.mv t22),
  .mk (some p197) (some (p195, false)) (.mv t28),
  .mk (some p198) (some (p195, false)) (.call p22 [t196, t197]),
  .mk (some p199) (some (p195, false)) (.not t198),
  .mk (some p200) (some (p192, true)) (.pick t195 (.c (.bool true)) t199),
  .mk (some p201) none (.pick t192 t200 (.c (.bool false))),
  .mk (some p202) none (.mv t201),
  .mk (some p203) (some (p202, false)) (.mv t29),
  .mk (some p204) (some (p202, false)) (.not t203),
  .mk (some p205) (some (p202, false)) (.mv t204),
  .mk (some p206) (some (p205, true)) (.mv t23),
  .mk (some p207) (some (p205, true)) (.bin .ne t206 (.c (.int .i64 (.ofNat 12)))),
  .mk (some p208) (some (p205, true)) (.mv t207),
  .mk (some p209) (some (p208, false)) (.mv t22),
  .mk (some p210) (some (p208, false)) (.len t209),
  .mk (some p211) (some (p208, false)) (.bin .ne t210 (.c (.int .i64 (.ofNat 0)))),
  .mk (some p212) (some (p205, true)) (.pick t208 (.c (.bool true)) t211),
  .mk (some p213) (some (p202, false)) (.pick t205 t212 (.c (.bool false))),
  .mk (some p214) none (.pick t202 (.c (.bool true)) t213)])
 (.cond t214 (.seq (.reg [.mk (some p10) none (.mv (.c (.bool false)))])
 .ret) .skip)))))
 (.seq (.seq (.reg [.mk (some p215) none (.mv t0),
  .mk (some p216) none (.mv t1),
  .mk (some p217) none (.call p19 [t215, t216])])
 (.cond t217 (.seq (.reg [.mk (some p218) none (.mv t13),
  .mk (some p219) none (.bin .eq t218 (.c (.int .i64 (.ofNat 11)))),
  .mk (some p220) none (.mv t219),
  .mk (some p221) (some (p220, true)) (.mv t15),
  .mk (some p222) (some (p220, true)) (.bin .eq t221 (.c (.int .i64 (.ofNat 11)))),
  .mk (some p223) none (.pick t220 t222 (.c (.bool false))),
  .mk (some p224) none (.mv t223),
  .mk (some p225) (some (p224, true)) (.mv t18),
  .mk (some p226) (some (p224, true)) (.bin .eq t225 (.c (.int .i64 (.ofNat 11)))),
  .mk (some p227) none (.pick t224 t226 (.c (.bool false))),
  .mk (some p228) none (.mv t227),
  .mk (some p229) (some (p228, true)) (.mv t12),
  .mk (some p230) (some (p228, true)) (.not t229),
  .mk (some p231) none (.pick t228 t230 (.c (.bool false))),
  .mk (some p232) none (.mv t231),
  .mk (some p233) (some (p232, true)) (.mv t14),
  .mk (some p234) (some (p232, true)) (.len t233),
  .mk (some p235) (some (p232, true)) (.mv t16),
  .mk (some p236) (some (p232, true)) (.bin .add t234 t235),
  .mk (some p237) (some (p232, true)) (.mv t17),
  .mk (some p238) (some (p232, true)) (.bin .add t236 t237),
  .mk (some p239) (some (p232, true)) (.bin .eq t238 (.c (.int .i64 (.ofNat 0)))),
  .mk (some p240) none (.pick t232 t239 (.c (.bool false))),
  .mk (some p241) none (.mv t240),
  .mk (some p242) (some (p241, true)) (.mv t0),
  .mk (some p243) (some (p241, true)) (.mv t1),
  .mk (some p244) (some (p241, true)) (.mv t4),
  .mk (some p245) (some (p241, true)) (.call p30 [t242, t243, t244]),
  .mk (some p246) none (.pick t241 t245 (.c (.bool false))),
  .mk (some p247) none (.mv t246),
  .mk (some p248) (some (p247, true)) (.call p18 []),
  .mk (some p249) none (.pick t247 t248 (.c (.bool false))),
  .mk (some p10) none (.mv t249)])
 .ret) .skip))
 (.seq (.seq (.reg [.mk (some p250) none (.mv t13),
  .mk (some p251) none (.bin .ne t250 (.c (.int .i64 (.ofNat 0)))),
  .mk (some p252) none (.mv t251),
  .mk (some p253) (some (p252, false)) (.mv t12),
  .mk (some p254) (some (p252, false)) (.mv t0),
  .mk (some p255) (some (p252, false)) (.mv t1),
  .mk (some p256) (some (p252, false)) (.call p31 [t254, t255]),
  .mk (some p257) (some (p252, false)) (.beq true t253 t256),
  .mk (some p258) none (.pick t252 (.c (.bool true)) t257)])
 (.cond t258 (.seq (.reg [.mk (some p10) none (.mv (.c (.bool false)))])
 .ret) .skip))
 (.seq (.seq (.reg [.mk (some p260) none (.mv t0),
  .mk (some p261) none (.mv t1),
  .mk (some p262) none (.call p32 [t260, t261]),
  .mk (some p259) none (.mv t262),
  .mk (some p263) none (.ex t259 0),
  .mk (some p264) none (.ex t259 1),
  .mk (some p30) none (.mv t263),
  .mk (some p31) none (.mv t264)])
 (.seq (.reg [.mk (some p265) none (.mv t31),
  .mk (some p266) none (.mv t265),
  .mk (some p267) (some (p266, true)) (.mv t15),
  .mk (some p268) (some (p266, true)) (.bin .ne t267 (.c (.int .i64 (.ofNat 0)))),
  .mk (some p269) (some (p266, true)) (.mv t268),
  .mk (some p270) (some (p269, false)) (.mv t14),
  .mk (some p271) (some (p269, false)) (.mv t30),
  .mk (some p272) (some (p269, false)) (.call p22 [t270, t271]),
  .mk (some p273) (some (p269, false)) (.not t272),
  .mk (some p274) (some (p266, true)) (.pick t269 (.c (.bool true)) t273),
  .mk (some p275) none (.pick t266 t274 (.c (.bool false))),
  .mk (some p276) none (.mv t275),
  .mk (some p277) (some (p276, false)) (.mv t31),
  .mk (some p278) (some (p276, false)) (.not t277),
  .mk (some p279) (some (p276, false)) (.mv t278),
  .mk (some p280) (some (p279, true)) (.mv t15),
  .mk (some p281) (some (p279, true)) (.bin .ne t280 (.c (.int .i64 (.ofNat 12)))),
  .mk (some p282) (some (p279, true)) (.mv t281),
  .mk (some p283) (some (p282, false)) (.mv t14),
  .mk (some p284) (some (p282, false)) (.len t283),
  .mk (some p285) (some (p282, false)) (.bin .ne t284 (.c (.int .i64 (.ofNat 0)))),
  .mk (some p286) (some (p279, true)) (.pick t282 (.c (.bool true)) t285),
  .mk (some p287) (some (p276, false)) (.pick t279 t286 (.c (.bool false))),
  .mk (some p288) none (.pick t276 (.c (.bool true)) t287)])
 (.cond t288 (.seq (.reg [.mk (some p10) none (.mv (.c (.bool false)))])
 .ret) .skip)))
 (.seq (.reg [.mk (some p289) none (.mv t0),
  .mk (some p290) none (.mv t1),
  .mk (some p291) none (.mv t2),
  .mk (some p292) none (.call p33 [t289, t290, t291]),
  .mk (some p32) none (.mv t292)])
 (.seq (.seq (.reg [.mk (some p293) none (.mv t18),
  .mk (some p294) none (.mv t32),
  .mk (some p295) none (.bin .ne t293 t294),
  .mk (some p296) none (.mv t295),
  .mk (some p297) (some (p296, false)) (.mv t32),
  .mk (some p298) (some (p296, false)) (.bin .ne t297 (.c (.int .i64 (.ofNat 0)))),
  .mk (some p299) (some (p296, false)) (.mv t298),
  .mk (some p300) (some (p299, true)) (.mv t16),
  .mk (some p301) (some (p299, true)) (.mv t17),
  .mk (some p302) (some (p299, true)) (.bin .add t300 t301),
  .mk (some p303) (some (p299, true)) (.bin .ne t302 (.c (.int .i64 (.ofNat 0)))),
  .mk (some p304) (some (p296, false)) (.pick t299 t303 (.c (.bool false))),
  .mk (some p305) none (.pick t296 (.c (.bool true)) t304)])
 (.cond t305 (.seq (.reg [.mk (some p10) none (.mv (.c (.bool false)))])
 .ret) .skip))
 (.seq (.seq (.reg [.mk (some p306) none (.mv t32),
  .mk (some p307) none (.bin .eq t306 (.c (.int .i64 (.ofNat 0))))])
 (.cond t307 (.seq (.reg [.mk (some p309) none (.mv t0),
  .mk (some p310) none (.mv t1),
  .mk (some p311) none (.mv t2),
  .mk (some p312) none (.call p34 [t309, t310, t311]),
  .mk (some p308) none (.mv t312),
  .mk (some p313) none (.ex t308 0),
  .mk (some p314) none (.ex t308 1),
  .mk (some p33) none (.mv t313),
  .mk (some p34) none (.mv t314)])
 (.seq (.reg [.mk (some p315) none (.mv t16),
  .mk (some p316) none (.mv t33),
  .mk (some p317) none (.bin .ne t315 t316),
  .mk (some p318) none (.mv t317),
  .mk (some p319) (some (p318, false)) (.mv t17),
  .mk (some p320) (some (p318, false)) (.mv t34),
  .mk (some p321) (some (p318, false)) (.bin .ne t319 t320),
  .mk (some p322) none (.pick t318 (.c (.bool true)) t321)])
 (.cond t322 (.seq (.reg [.mk (some p10) none (.mv (.c (.bool false)))])
 .ret) .skip))) .skip))
 (.seq (.reg [.mk (some p324) none (.mv t1),
  .mk (some p325) none (.mv t4),
  .mk (some p326) none (.call p35 [t324, t325]),
  .mk (some p323) none (.mv t326),
  .mk (some p327) none (.ex t323 0),
  .mk (some p328) none (.ex t323 1),
  .mk (some p35) none (.mv t327),
  .mk (some p36) none (.mv t328)])
 (.seq (.reg [.mk (some p330) none (.mv t1),
  .mk (some p331) none (.mv t4),
  .mk (some p332) none (.call p36 [t330, t331]),
  .mk (some p329) none (.mv t332),
  .mk (some p333) none (.ex t329 0),
  .mk (some p334) none (.ex t329 1),
  .mk (some p37) none (.mv t333),
  .mk (some p38) none (.mv t334)])
 (.seq (.reg [.mk (some p335) none (.mv t35),
  .mk (some p336) none (.mv t37),
  .mk (some p337) none (.bin .eq t335 t336),
  .mk (some p338) none (.mv t337),
  .mk (some p339) (some (p338, true)) (.mv t36),
  .mk (some p340) (some (p338, true)) (.mv t38),
  .mk (some p341) (some (p338, true)) (.beq false t339 t340),
  .mk (some p342) none (.pick t338 t341 (.c (.bool false))),
  .mk (some p343) none (.mv t342),
  .mk (some p344) (some (p343, true)) (.mv t0),
  .mk (some p345) (some (p343, true)) (.mv t1),
  .mk (some p346) (some (p343, true)) (.mv t4),
  .mk (some p347) (some (p343, true)) (.call p30 [t344, t345, t346]),
  .mk (some p348) none (.pick t343 t347 (.c (.bool false))),
  .mk (some p349) none (.mv t348),
  .mk (some p350) (some (p349, true)) (.call p18 []),
  .mk (some p351) none (.pick t349 t350 (.c (.bool false))),
  .mk (some p10) none (.mv t351)])
 .ret)))))))))))))))))))))))
 [.t p10]
def ls5 : List Nat := [8]

/- delver/delverlaw14.Heavy -/
def f15 : Fd := .mk [p0]
 (.seq (.reg [.mk (some p2) none (.mv (.c (.bool false)))])
 (.seq (.seq (.reg [.mk (some p4) none (.mv t0),
  .mk (some p5) none (.len t4),
  .mk (some p6) none (.bin .gt t5 (.c (.int .i64 (.ofNat 60))))])
 (.cond t6 (.seq (.reg [.mk (some p2) none (.mv (.c (.bool true)))])
 .ret) .skip))
 (.seq (.seq (.reg [.mk (some p3) none (.mv (.c (.int .i64 (.ofNat 0))))])
 (.block 0 (.loop [p0, p3] (.seq (.seq (.reg [.mk (some p7) none (.mv t3),
  .mk (some p8) none (.mv t0),
  .mk (some p9) none (.len t8),
  .mk (some p10) none (.bin .lt t7 t9)])
 (.cond t10 .skip (.exit 0)))
 (.seq (.block 1 (.seq (.reg [.mk (some p13) none (.mv t0),
  .mk (some p14) none (.mv t3),
  .mk (some p15) none (.ia 3 t13 t14),
  .mk (some p16) none (.fa 0 t15),
  .mk (some p17) none (.lda 2 t16),
  .mk (some p18) none (.call p49 [t17])])
 (.cond t18 (.seq (.reg [.mk (some p2) none (.mv (.c (.bool true)))])
 .ret) .skip)))
 (.reg [.mk (some p11) none (.mv t3),
  .mk (some p12) none (.bin .add t11 (.c (.int .i64 (.ofNat 1)))),
  .mk (some p3) none (.mv t12)]))))))
 (.seq (.reg [.mk (some p2) none (.mv (.c (.bool false)))])
 .ret))))
 [.t p2]
def ls15 : List Nat := []

/- delver/delverkeep.TwinCons -/
def f23 : Fd := .mk [p0]
 (.seq (.reg [.mk (some p2) none (.mv (.c .nils))])
 (.seq (.reg [.mk (some p3) none (.mv (.c .nils))])
 (.seq (.seq (.reg [.mk (some p4) none (.mv (.c (.int .i64 (.ofNat 0))))])
 (.block 0 (.loop [p0, p3, p4] (.seq (.seq (.reg [.mk (some p5) none (.mv t4),
  .mk (some p6) none (.mv t0),
  .mk (some p7) none (.len t6),
  .mk (some p8) none (.bin .lt t5 t7)])
 (.cond t8 .skip (.exit 0)))
 (.seq (.block 1 (.drw [.mk true [p3] [p11] true (.mk (some p11) none (.mv t3)),
  .mk true [p0] [p12] true (.mk (some p12) none (.mv t0)),
  .mk true [p4] [p13] true (.mk (some p13) none (.mv t4)),
  .mk true [p12, p13] [p14] true (.mk (some p14) none (.ia 3 t12 t13)),
  .mk true [p14] [p15] true (.mk (some p15) none (.fa 0 t14)),
  .mk true [p15] [p16] true (.mk (some p16) none (.lda 2 t15)),
  .mk true [p16] [p17] true (.mk (some p17) none (.call p57 [t16])),
  .mk true [p0] [p18] true (.mk (some p18) none (.mv t0)),
  .mk true [p4] [p19] true (.mk (some p19) none (.mv t4)),
  .mk true [p18, p19] [p20] true (.mk (some p20) none (.ia 3 t18 t19)),
  .mk true [p20] [p21] true (.mk (some p21) none (.fa 2 t20)),
  .mk true [p21] [p22] true (.mk (some p22) none (.ld t21)),
  .mk true [p17, p22] [p23] true (.mk (some p23) none (.bld [(.int .i64 (.ofNat 0)), .nils, (.bool false)] [(0, 2, t17), (2, 1, t22)])),
  .mk true [p23] [p24] true (.mk (some p24) none (.bsl 1 3 [(.int .i64 (.ofNat 0)), .nils, (.bool false)] [(0, 3, t23)])),
  .mk true [p11, p24] [p25] false (.mk (some p25) none (.app 3 40 t11 t24)),
  .mk true [p25] [p3] true (.mk (some p3) none (.mv t25))]))
 (.reg [.mk (some p9) none (.mv t4),
  .mk (some p10) none (.bin .add t9 (.c (.int .i64 (.ofNat 1)))),
  .mk (some p4) none (.mv t10)]))))))
 (.seq (.reg [.mk (some p26) none (.mv t3),
  .mk (some p2) none (.mv t26)])
 .ret))))
 [.t p2]
def ls23 : List Nat := []

/- delver/shade.Exact -/
def f24 : Fd := .mk [p0, p1]
 (.seq (.reg [.mk (some p4) none (.mv (.c (.bool false))),
  .mk (some p5) none (.mv (.c (.int .i64 (.ofNat 0))))])
 (.seq (.reg [.mk (some p10) none (.mv t0),
  .mk (some p11) none (.mv t1),
  .mk (some p12) none (.call p52 [t10, t11]),
  .mk (some p6) none (.mv t12)])
 (.seq (.seq (.reg [.mk (some p13) none (.mv t6),
  .mk (some p14) none (.bin .ne t13 (.c (.int .i64 (.ofNat 0))))])
 (.cond t14 (.seq (.reg [.mk (some p15) none (.mv t6),
  .mk (some p4) none (.mv (.c (.bool false))),
  .mk (some p5) none (.mv t15)])
 .ret) .skip))
 (.seq (.reg [.mk (some p17) none (.mv t0),
  .mk (some p18) none (.mv t1),
  .mk (some p19) none (.call p53 [t17, t18]),
  .mk (some p16) none (.mv t19),
  .mk (some p20) none (.ex t16 0),
  .mk (some p21) none (.ex t16 1),
  .mk (some p22) none (.ex t16 2),
  .mk (some p7) none (.mv t20),
  .mk (some p8) none (.mv t21),
  .mk (some p9) none (.mv t22)])
 (.seq (.reg [.mk (some p23) none (.mv t7),
  .mk (some p24) none (.mv t1),
  .mk (some p25) none (.call p58 [t23, t24, (.c (.int .i64 (.negSucc 0)))]),
  .mk (some p26) none (.mv t25),
  .mk (some p27) (some (p26, false)) (.mv t8),
  .mk (some p28) (some (p26, false)) (.mv t1),
  .mk (some p29) (some (p26, false)) (.call p58 [t27, t28, (.c (.int .i64 (.ofNat 1)))]),
  .mk (some p30) none (.pick t26 (.c (.bool true)) t29),
  .mk (some p4) none (.mv t30),
  .mk (some p5) none (.mv (.c (.int .i64 (.ofNat 0))))])
 .ret)))))
 [.t p4, .t p5]
def ls24 : List Nat := []

/- delver/shade.Drop -/
def f21 : Fd := .mk [p0, p1]
 (.seq (.reg [.mk (some p4) none (.mv (.c .nils)),
  .mk (some p5) none (.mv (.c (.int .i64 (.ofNat 0))))])
 (.seq (.reg [.mk (some p19) none (.mv t0),
  .mk (some p20) none (.mv t1),
  .mk (some p21) none (.call p52 [t19, t20]),
  .mk (some p6) none (.mv t21)])
 (.seq (.seq (.reg [.mk (some p22) none (.mv t6),
  .mk (some p23) none (.bin .ne t22 (.c (.int .i64 (.ofNat 0))))])
 (.cond t23 (.seq (.reg [.mk (some p24) none (.mv t6),
  .mk (some p4) none (.mv (.c .nils)),
  .mk (some p5) none (.mv t24)])
 .ret) .skip))
 (.seq (.reg [.mk (some p26) none (.mv t0),
  .mk (some p27) none (.mv t1),
  .mk (some p28) none (.call p53 [t26, t27]),
  .mk (some p25) none (.mv t28),
  .mk (some p29) none (.ex t25 0),
  .mk (some p30) none (.ex t25 1),
  .mk (some p31) none (.ex t25 2),
  .mk (some p7) none (.mv t29),
  .mk (some p8) none (.mv t30),
  .mk (some p9) none (.mv t31)])
 (.seq (.reg [.mk (some p10) none (.mv (.c .nils))])
 (.seq (.seq (.reg [.mk (some p32) none (.mv t9),
  .mk (some p33) none (.len t32),
  .mk (some p34) none (.mv (.c (.int .i64 (.ofNat 0))))])
 (.block 0 (.loop [p1, p7, p8, p10, p32, p33, p34] (.seq (.reg [.mk (some p35) none (.bin .lt t34 t33)])
 (.seq (.cond t35 .skip (.exit 0))
 (.seq (.block 1 (.seq (.reg [.mk (some p36) none (.ia 3 t32 t34),
  .mk (some p37) none (.lda 3 t36),
  .loc p12 [(.int .i64 (.ofNat 0)), .nils, (.bool false)],
  .mk none none (.st 3 t12 t37)])
 (.reg [.mk (some p38) none (.mv t10),
  .mk (some p39) none (.lda 3 t12),
  .mk (some p40) none (.call p54 [t39]),
  .mk (some p41) none (.bsl 1 3 [(.int .i64 (.ofNat 0)), .nils, (.bool false)] [(0, 3, t40)]),
  .mk (some p42) none (.app 3 40 t38 t41),
  .mk (some p10) none (.mv t42)])))
 (.reg [.mk (some p43) none (.bin .add t34 (.c (.int .i64 (.ofNat 1)))),
  .mk (some p34) none (.mv t43)])))))))
 (.seq (.seq (.reg [.mk (some p44) none (.mv t7),
  .mk (some p45) none (.len t44),
  .mk (some p46) none (.mv (.c (.int .i64 (.ofNat 0))))])
 (.block 2 (.loop [p1, p8, p10, p44, p45, p46] (.seq (.reg [.mk (some p47) none (.bin .lt t46 t45)])
 (.seq (.cond t47 .skip (.exit 2))
 (.seq (.block 3 (.seq (.reg [.mk (some p48) none (.ia 3 t44 t46),
  .mk (some p49) none (.lda 3 t48),
  .loc p14 [(.int .i64 (.ofNat 0)), .nils, (.bool false)],
  .mk none none (.st 3 t14 t49)])
 (.seq (.reg [.mk (some p50) none (.mv t8),
  .mk (some p51) none (.len t50),
  .mk (some p52) none (.mv (.c (.int .i64 (.ofNat 0))))])
 (.block 4 (.loop [p1, p8, p10, p14, p44, p45, p46, p50, p51, p52] (.seq (.reg [.mk (some p53) none (.bin .lt t52 t51)])
 (.seq (.cond t53 .skip (.exit 4))
 (.seq (.block 5 (.seq (.reg [.mk (some p54) none (.ia 3 t50 t52),
  .mk (some p55) none (.lda 3 t54),
  .loc p16 [(.int .i64 (.ofNat 0)), .nils, (.bool false)],
  .mk none none (.st 3 t16 t55)])
 (.seq (.reg [.mk (some p57) none (.lda 3 t14),
  .mk (some p58) none (.lda 3 t16),
  .mk (some p59) none (.mv t1),
  .mk (some p60) none (.call p55 [t57, t58, t59]),
  .mk (some p56) none (.mv t60),
  .mk (some p61) none (.ex t56 0),
  .mk (some p62) none (.ex t56 1),
  .loc p17 [(.int .i64 (.ofNat 0)), .nils, (.bool false)],
  .mk none none (.st 3 t17 t61),
  .mk (some p18) none (.mv t62)])
 (.seq (.seq (.reg [.mk (some p63) none (.mv t18),
  .mk (some p64) none (.bin .ne t63 (.c (.int .i64 (.ofNat 0))))])
 (.cond t64 (.seq (.reg [.mk (some p65) none (.mv t18),
  .mk (some p4) none (.mv (.c .nils)),
  .mk (some p5) none (.mv t65)])
 .ret) .skip))
 (.reg [.mk (some p66) none (.mv t10),
  .mk (some p67) none (.lda 3 t17),
  .mk (some p68) none (.bsl 1 3 [(.int .i64 (.ofNat 0)), .nils, (.bool false)] [(0, 3, t67)]),
  .mk (some p69) none (.app 3 40 t66 t68),
  .mk (some p10) none (.mv t69)])))))
 (.reg [.mk (some p70) none (.bin .add t52 (.c (.int .i64 (.ofNat 1)))),
  .mk (some p52) none (.mv t70)])))))))))
 (.reg [.mk (some p71) none (.bin .add t46 (.c (.int .i64 (.ofNat 1)))),
  .mk (some p46) none (.mv t71)])))))))
 (.seq (.reg [.mk (some p72) none (.mv t10),
  .mk (some p4) none (.mv t72),
  .mk (some p5) none (.mv (.c (.int .i64 (.ofNat 0))))])
 .ret))))))))
 [.t p4, .t p5]
def ls21 : List Nat := [12, 14, 16, 17]

/- delver/shade.Span -/
def f25 : Fd := .mk [p0, p1, p2]
 (.seq (.reg [.mk (some p4) none (.bx t1),
  .mk (some p5) none (.bx t2),
  .mk (some p6) none (.mv (.c (.int .i64 (.ofNat 0)))),
  .mk (some p7) none (.mv (.c (.int .i64 (.ofNat 0)))),
  .mk (some p8) none (.mv (.c (.int .i64 (.ofNat 0))))])
 (.seq (.reg [.mk (some p20) none (.mv t0),
  .mk (some p21) none (.ld t4),
  .mk (some p22) none (.call p52 [t20, t21]),
  .mk (some p8) none (.mv t22)])
 (.seq (.seq (.reg [.mk (some p23) none (.mv t8),
  .mk (some p24) none (.bin .ne t23 (.c (.int .i64 (.ofNat 0))))])
 (.cond t24 (.seq (.reg [.mk (some p25) none (.mv t8),
  .mk (some p6) none (.mv (.c (.int .i64 (.ofNat 0)))),
  .mk (some p7) none (.mv (.c (.int .i64 (.ofNat 0)))),
  .mk (some p8) none (.mv t25)])
 .ret) .skip))
 (.seq (.reg [.mk (some p27) none (.mv t0),
  .mk (some p28) none (.ld t4),
  .mk (some p29) none (.call p53 [t27, t28]),
  .mk (some p26) none (.mv t29),
  .mk (some p30) none (.ex t26 0),
  .mk (some p31) none (.ex t26 1),
  .mk (some p32) none (.ex t26 2),
  .mk (some p9) none (.mv t30),
  .mk (some p10) none (.mv t31),
  .mk (some p11) none (.mv t32)])
 (.seq (.reg [.mk (some p6) none (.mv (.c (.int .i64 (.negSucc 2147483647)))),
  .mk (some p7) none (.mv (.c (.int .i64 (.ofNat 2147483647))))])
 (.seq (.seq (.reg [.mk (some p33) none (.mv t9),
  .mk (some p34) none (.mv t10),
  .mk (some p35) none (.bsl 2 1 [.nils, .nils] [(0, 1, t33), (1, 1, t34)]),
  .mk (some p36) none (.call p59 [t35]),
  .mk (some p37) none (.len t36),
  .mk (some p38) none (.mv (.c (.int .i64 (.ofNat 0))))])
 (.block 0 (.loop [p4, p5, p6, p7, p9, p10, p36, p37, p38] (.seq (.reg [.mk (some p39) none (.bin .lt t38 t37)])
 (.seq (.cond t39 .skip (.exit 0))
 (.seq (.block 1 (.seq (.reg [.mk (some p40) none (.ia 3 t36 t38),
  .mk (some p41) none (.lda 3 t40),
  .loc p13 [(.int .i64 (.ofNat 0)), .nils, (.bool false)],
  .mk none none (.st 3 t13 t41)])
 (.seq (.reg [.mk (some p42) none (.fa 0 t13),
  .mk (some p43) none (.fa 1 t42),
  .mk (some p44) none (.ld t43),
  .mk (some p45) none (.mfn p61 [t4, t5]),
  .mk (some p46) none (.call p60 [t44, t45])])
 (.cond t46 (.seq (.reg [.mk (some p6) none (.mv (.c (.int .i64 (.ofNat 0)))),
  .mk (some p7) none (.mv (.c (.int .i64 (.ofNat 0)))),
  .mk (some p8) none (.mv (.c (.int .i64 (.ofNat 5))))])
 .ret) .skip))))
 (.reg [.mk (some p47) none (.bin .add t38 (.c (.int .i64 (.ofNat 1)))),
  .mk (some p38) none (.mv t47)])))))))
 (.seq (.seq (.reg [.mk (some p48) none (.ld t5),
  .mk (some p49) none (.call p62 [t48, (.c (.fn p63 []))])])
 (.cond t49 (.seq (.reg [.mk (some p6) none (.mv (.c (.int .i64 (.ofNat 0)))),
  .mk (some p7) none (.mv (.c (.int .i64 (.ofNat 0)))),
  .mk (some p8) none (.mv (.c (.int .i64 (.ofNat 1))))])
 .ret) .skip))
 (.seq (.seq (.reg [.mk (some p50) none (.mv t9),
  .mk (some p51) none (.mv t10),
  .mk (some p52) none (.bsl 2 1 [.nils, .nils] [(0, 1, t50), (1, 1, t51)]),
  .mk (some p53) none (.call p59 [t52]),
  .mk (some p54) none (.len t53),
  .mk (some p55) none (.mv (.c (.int .i64 (.ofNat 0))))])
 (.block 2 (.loop [p4, p5, p6, p7, p53, p54, p55] (.seq (.reg [.mk (some p56) none (.bin .lt t55 t54)])
 (.seq (.cond t56 .skip (.exit 2))
 (.seq (.block 3 (.seq (.reg [.mk (some p57) none (.ia 3 t53 t55),
  .mk (some p58) none (.lda 3 t57),
  .loc p15 [(.int .i64 (.ofNat 0)), .nils, (.bool false)],
  .mk none none (.st 3 t15 t58)])
 (.seq (.reg [.mk (some p59) none (.fa 0 t15),
  .mk (some p60) none (.fa 0 t59),
  .mk (some p61) none (.ld t60),
  .mk (some p16) none (.mv t61)])
 (.seq (.seq (.reg [.mk (some p62) none (.fa 0 t15),
  .mk (some p63) none (.fa 1 t62),
  .mk (some p64) none (.ld t63),
  .mk (some p65) none (.len t64),
  .mk (some p66) none (.mv (.c (.int .i64 (.ofNat 0))))])
 (.block 4 (.loop [p4, p5, p6, p7, p15, p16, p53, p54, p55, p64, p65, p66] (.seq (.reg [.mk (some p67) none (.bin .lt t66 t65)])
 (.seq (.cond t67 .skip (.exit 4))
 (.seq (.block 5 (.seq (.reg [.mk (some p68) none (.ia 2 t64 t66),
  .mk (some p69) none (.lda 2 t68),
  .loc p18 [(.int .i64 (.ofNat 0)), (.int .i64 (.ofNat 0))],
  .mk none none (.st 2 t18 t69)])
 (.seq (.reg [.mk (some p70) none (.fa 0 t18),
  .mk (some p71) none (.ld t70),
  .mk (some p72) none (.ld t4),
  .mk (some p73) none (.bin .ne t71 t72)])
 (.cond t73 (.drw [.mk true [p16] [p74] true (.mk (some p74) none (.mv t16)),
  .mk true [p18] [p75] true (.mk (some p75) none (.fa 1 t18)),
  .mk true [p18, p75] [p76] true (.mk (some p76) none (.ld t75)),
  .mk true [p5] [p77] true (.mk (some p77) none (.ld t5)),
  .mk true [p18] [p78] true (.mk (some p78) none (.fa 0 t18)),
  .mk true [p18, p78] [p79] true (.mk (some p79) none (.ld t78)),
  .mk true [p77, p79] [p80] true (.mk (some p80) none (.ia 1 t77 t79)),
  .mk true [p80] [p81] true (.mk (some p81) none (.ld t80)),
  .mk true [p76, p81] [p82] true (.mk (some p82) none (.bin .mul t76 t81)),
  .mk true [p74, p82] [p83] true (.mk (some p83) none (.bin .add t74 t82)),
  .mk true [p83] [p16] true (.mk (some p16) none (.mv t83))]) .skip))))
 (.reg [.mk (some p84) none (.bin .add t66 (.c (.int .i64 (.ofNat 1)))),
  .mk (some p66) none (.mv t84)])))))))
 (.seq (.reg [.mk (some p85) none (.fa 0 t15),
  .mk (some p86) none (.lda 2 t85),
  .mk (some p87) none (.ld t4),
  .mk (some p88) none (.call p64 [t86, t87]),
  .mk (some p19) none (.mv t88)])
 (.seq (.reg [.mk (some p89) none (.mv t19),
  .mk (some p90) none (.bin .lt t89 (.c (.int .i64 (.ofNat 0))))])
 (.cond t90 (.reg [.mk (some p91) none (.mv t6),
  .mk (some p92) none (.mv t16),
  .mk (some p93) none (.neg t92),
  .mk (some p94) none (.mv t19),
  .mk (some p95) none (.neg t94),
  .mk (some p96) none (.call p65 [t93, t95]),
  .mk (some p97) none (.neg t96),
  .mk (some p98) none (.mx t91 [t97]),
  .mk (some p6) none (.mv t98)]) (.reg [.mk (some p99) none (.mv t7),
  .mk (some p100) none (.mv t16),
  .mk (some p101) none (.neg t100),
  .mk (some p102) none (.mv t19),
  .mk (some p103) none (.call p65 [t101, t102]),
  .mk (some p104) none (.mn t99 [t103]),
  .mk (some p7) none (.mv t104)]))))))))
 (.reg [.mk (some p105) none (.bin .add t55 (.c (.int .i64 (.ofNat 1)))),
  .mk (some p55) none (.mv t105)])))))))
 (.seq (.reg [.mk (some p106) none (.mv t6),
  .mk (some p107) none (.mn t106 [(.c (.int .i64 (.ofNat 2147483647)))]),
  .mk (some p108) none (.mv t7),
  .mk (some p109) none (.mx t108 [(.c (.int .i64 (.negSucc 2147483647)))]),
  .mk (some p6) none (.mv t107),
  .mk (some p7) none (.mv t109),
  .mk (some p8) none (.mv (.c (.int .i64 (.ofNat 0))))])
 .ret)))))))))
 [.t p6, .t p7, .t p8]
def ls25 : List Nat := [13, 15, 18]

/- delver/shade.Unit -/
def f17 : Fd := .mk [p0]
 (.seq (.reg [.mk (some p2) none (.mv (.c (.int .i64 (.ofNat 0)))),
  .mk (some p3) none (.mv (.c (.int .i64 (.ofNat 0)))),
  .mk (some p4) none (.mv (.c (.int .i64 (.ofNat 0))))])
 (.seq (.seq (.reg [.mk (some p9) none (.mv t0),
  .mk (some p10) none (.call p50 [t9, (.c (.int .i64 (.ofNat 0)))]),
  .mk (some p11) none (.not t10)])
 (.cond t11 (.seq (.reg [.mk (some p2) none (.mv (.c (.int .i64 (.ofNat 0)))),
  .mk (some p3) none (.mv (.c (.int .i64 (.ofNat 0)))),
  .mk (some p4) none (.mv (.c (.int .i64 (.ofNat 1))))])
 .ret) .skip))
 (.seq (.seq (.reg [.mk (some p12) none (.mv t0),
  .mk (some p13) none (.len t12),
  .mk (some p14) none (.mv (.c (.int .i64 (.ofNat 0))))])
 (.block 0 (.loop [p12, p13, p14] (.seq (.reg [.mk (some p15) none (.bin .lt t14 t13)])
 (.seq (.cond t15 .skip (.exit 0))
 (.seq (.block 1 (.seq (.reg [.mk (some p16) none (.mv t14),
  .mk (some p17) none (.ia 3 t12 t14),
  .mk (some p18) none (.lda 3 t17),
  .loc p6 [(.int .i64 (.ofNat 0)), .nils, (.bool false)],
  .mk (some p5) none (.mv t16),
  .mk none none (.st 3 t6 t18)])
 (.seq (.reg [.mk (some p19) none (.fa 0 t6),
  .mk (some p20) none (.fa 1 t19),
  .mk (some p21) none (.ld t20),
  .mk (some p22) none (.len t21),
  .mk (some p23) none (.mv (.c (.int .i64 (.ofNat 0))))])
 (.block 2 (.loop [p5, p6, p12, p13, p14, p21, p22, p23] (.seq (.reg [.mk (some p24) none (.bin .lt t23 t22)])
 (.seq (.cond t24 .skip (.exit 2))
 (.seq (.block 3 (.seq (.reg [.mk (some p25) none (.ia 2 t21 t23),
  .mk (some p26) none (.lda 2 t25),
  .loc p8 [(.int .i64 (.ofNat 0)), (.int .i64 (.ofNat 0))],
  .mk none none (.st 2 t8 t26)])
 (.seq (.reg [.mk (some p27) none (.fa 2 t6),
  .mk (some p28) none (.ld t27),
  .mk (some p29) none (.mv t28),
  .mk (some p30) (some (p29, true)) (.fa 1 t8),
  .mk (some p31) (some (p29, true)) (.ld t30),
  .mk (some p32) (some (p29, true)) (.call p51 [t31]),
  .mk (some p33) none (.pick t29 t32 (.c (.bool false)))])
 (.cond t33 (.seq (.drw [.mk true [p5] [p34] true (.mk (some p34) none (.mv t5)),
  .mk true [p8] [p35] true (.mk (some p35) none (.fa 0 t8)),
  .mk true [p8, p35] [p36] true (.mk (some p36) none (.ld t35)),
  .mk true [p34] [p2] true (.mk (some p2) none (.mv t34)),
  .mk true [p36] [p3] true (.mk (some p3) none (.mv t36)),
  .mk true [] [p4] true (.mk (some p4) none (.mv (.c (.int .i64 (.ofNat 0)))))])
 .ret) .skip))))
 (.reg [.mk (some p37) none (.bin .add t23 (.c (.int .i64 (.ofNat 1)))),
  .mk (some p23) none (.mv t37)])))))))))
 (.reg [.mk (some p38) none (.bin .add t14 (.c (.int .i64 (.ofNat 1)))),
  .mk (some p14) none (.mv t38)])))))))
 (.seq (.reg [.mk (some p2) none (.mv (.c (.int .i64 (.ofNat 0)))),
  .mk (some p3) none (.mv (.c (.int .i64 (.ofNat 0)))),
  .mk (some p4) none (.mv (.c (.int .i64 (.ofNat 5))))])
 .ret))))
 [.t p2, .t p3, .t p4]
def ls17 : List Nat := [6, 8]

/- delver/shade.Swap -/
def f26 : Fd := .mk [p0, p1, p2]
 (.seq (.reg [.locb p5 t2,
  .mk (some p6) none (.mv (.c .nils)),
  .mk (some p7) none (.mv (.c (.int .i64 (.ofNat 0))))])
 (.seq (.seq (.reg [.mk (some p13) none (.mv t0),
  .mk (some p14) none (.mv t1),
  .mk (some p15) none (.call p50 [t13, t14]),
  .mk (some p16) none (.not t15),
  .mk (some p17) none (.mv t16),
  .mk (some p18) (some (p17, false)) (.lda 2 t5),
  .mk (some p19) (some (p17, false)) (.call p66 [t18]),
  .mk (some p20) (some (p17, false)) (.bin .ne t19 (.c (.int .i64 (.ofNat 0)))),
  .mk (some p21) none (.pick t17 (.c (.bool true)) t20)])
 (.cond t21 (.seq (.reg [.mk (some p6) none (.mv (.c .nils)),
  .mk (some p7) none (.mv (.c (.int .i64 (.ofNat 1))))])
 .ret) .skip))
 (.seq (.reg [.mk (some p8) none (.mv (.c .nils))])
 (.seq (.seq (.reg [.mk (some p22) none (.mv t0),
  .mk (some p23) none (.len t22),
  .mk (some p24) none (.mv (.c (.int .i64 (.ofNat 0))))])
 (.block 0 (.loop [p1, p5, p8, p22, p23, p24] (.seq (.reg [.mk (some p25) none (.bin .lt t24 t23)])
 (.seq (.cond t25 .skip (.exit 0))
 (.seq (.block 1 (.seq (.reg [.mk (some p26) none (.ia 3 t22 t24),
  .mk (some p27) none (.lda 3 t26),
  .loc p10 [(.int .i64 (.ofNat 0)), .nils, (.bool false)],
  .mk none none (.st 3 t10 t27)])
 (.seq (.reg [.mk (some p29) none (.fa 0 t10),
  .mk (some p30) none (.lda 2 t29),
  .mk (some p31) none (.mv t1),
  .mk (some p32) none (.lda 2 t5),
  .mk (some p33) none (.call p67 [t30, t31, t32]),
  .mk (some p28) none (.mv t33),
  .mk (some p34) none (.ex t28 0),
  .mk (some p35) none (.ex t28 1),
  .loc p11 [(.int .i64 (.ofNat 0)), .nils],
  .mk none none (.st 2 t11 t34),
  .mk (some p12) none (.mv t35)])
 (.seq (.seq (.reg [.mk (some p36) none (.mv t12),
  .mk (some p37) none (.bin .ne t36 (.c (.int .i64 (.ofNat 0))))])
 (.cond t37 (.seq (.reg [.mk (some p6) none (.mv (.c .nils)),
  .mk (some p7) none (.mv (.c (.int .i64 (.ofNat 12))))])
 .ret) .skip))
 (.reg [.mk (some p38) none (.mv t8),
  .mk (some p39) none (.lda 2 t11),
  .mk (some p40) none (.fa 2 t10),
  .mk (some p41) none (.ld t40),
  .mk (some p42) none (.bld [(.int .i64 (.ofNat 0)), .nils, (.bool false)] [(0, 2, t39), (2, 1, t41)]),
  .mk (some p43) none (.bsl 1 3 [(.int .i64 (.ofNat 0)), .nils, (.bool false)] [(0, 3, t42)]),
  .mk (some p44) none (.app 3 40 t38 t43),
  .mk (some p8) none (.mv t44)])))))
 (.reg [.mk (some p45) none (.bin .add t24 (.c (.int .i64 (.ofNat 1)))),
  .mk (some p24) none (.mv t45)])))))))
 (.seq (.reg [.mk (some p46) none (.mv t8),
  .mk (some p6) none (.mv t46),
  .mk (some p7) none (.mv (.c (.int .i64 (.ofNat 0))))])
 .ret)))))
 [.t p6, .t p7]
def ls26 : List Nat := [5, 10, 11]

/- delver/delverkeep.Cons -/
def f22 : Fd := .mk [p0, p1]
 (.seq (.reg [.mk (some p4) none (.mv (.c (.bool false)))])
 (.seq (.seq (.reg [.mk (some p6) none (.mv t0),
  .mk (some p7) none (.len t6),
  .mk (some p8) none (.mv t1),
  .mk (some p9) none (.len t8),
  .mk (some p10) none (.bin .ne t7 t9)])
 (.cond t10 (.seq (.reg [.mk (some p4) none (.mv (.c (.bool false)))])
 .ret) .skip))
 (.seq (.seq (.reg [.mk (some p5) none (.mv (.c (.int .i64 (.ofNat 0))))])
 (.block 0 (.loop [p0, p1, p5] (.seq (.seq (.reg [.mk (some p11) none (.mv t5),
  .mk (some p12) none (.mv t0),
  .mk (some p13) none (.len t12),
  .mk (some p14) none (.bin .lt t11 t13)])
 (.cond t14 .skip (.exit 0)))
 (.seq (.block 1 (.seq (.drw [.mk true [p0] [p17] true (.mk (some p17) none (.mv t0)),
  .mk true [p5] [p18] true (.mk (some p18) none (.mv t5)),
  .mk true [p17, p18] [p19] true (.mk (some p19) none (.ia 3 t17 t18)),
  .mk true [p19] [p20] true (.mk (some p20) none (.fa 2 t19)),
  .mk true [p20] [p21] true (.mk (some p21) none (.ld t20)),
  .mk true [p1] [p22] true (.mk (some p22) none (.mv t1)),
  .mk true [p5] [p23] true (.mk (some p23) none (.mv t5)),
  .mk true [p22, p23] [p24] true (.mk (some p24) none (.ia 3 t22 t23)),
  .mk true [p24] [p25] true (.mk (some p25) none (.fa 2 t24)),
  .mk true [p25] [p26] true (.mk (some p26) none (.ld t25)),
  .mk true [p21, p26] [p27] true (.mk (some p27) none (.beq true t21 t26)),
  .mk true [p27] [p28] true (.mk (some p28) none (.mv t27)),
  .mk true [p0, p28] [p29] true (.mk (some p29) (some (p28, false)) (.mv t0)),
  .mk true [p5, p28] [p30] true (.mk (some p30) (some (p28, false)) (.mv t5)),
  .mk true [p29, p30, p28] [p31] true (.mk (some p31) (some (p28, false)) (.ia 3 t29 t30)),
  .mk true [p31, p28] [p32] true (.mk (some p32) (some (p28, false)) (.fa 0 t31)),
  .mk true [p32, p28] [p33] true (.mk (some p33) (some (p28, false)) (.lda 2 t32)),
  .mk true [p1, p28] [p34] true (.mk (some p34) (some (p28, false)) (.mv t1)),
  .mk true [p5, p28] [p35] true (.mk (some p35) (some (p28, false)) (.mv t5)),
  .mk true [p34, p35, p28] [p36] true (.mk (some p36) (some (p28, false)) (.ia 3 t34 t35)),
  .mk true [p36, p28] [p37] true (.mk (some p37) (some (p28, false)) (.fa 0 t36)),
  .mk true [p37, p28] [p38] true (.mk (some p38) (some (p28, false)) (.lda 2 t37)),
  .mk true [p33, p38, p28] [p39] false (.mk (some p39) (some (p28, false)) (.call p56 [t33, t38])),
  .mk true [p39, p28] [p40] true (.mk (some p40) (some (p28, false)) (.not t39)),
  .mk true [p28, p40] [p41] true (.mk (some p41) none (.pick t28 (.c (.bool true)) t40))])
 (.cond t41 (.seq (.reg [.mk (some p4) none (.mv (.c (.bool false)))])
 .ret) .skip)))
 (.reg [.mk (some p15) none (.mv t5),
  .mk (some p16) none (.bin .add t15 (.c (.int .i64 (.ofNat 1)))),
  .mk (some p5) none (.mv t16)]))))))
 (.seq (.reg [.mk (some p4) none (.mv (.c (.bool true)))])
 .ret))))
 [.t p4]
def ls22 : List Nat := []

/- delver/delverref13.Terms -/
def f16 : Fd := .mk [p0]
 (.seq (.reg [.mk (some p2) none (.mv (.c (.bool false)))])
 (.seq (.seq (.reg [.mk (some p3) none (.mv (.c (.int .i64 (.ofNat 0))))])
 (.block 0 (.loop [p0, p3] (.seq (.seq (.reg [.mk (some p4) none (.mv t3),
  .mk (some p5) none (.mv t0),
  .mk (some p6) none (.len t5),
  .mk (some p7) none (.bin .lt t4 t6)])
 (.cond t7 .skip (.exit 0)))
 (.seq (.block 1 (.seq (.reg [.mk (some p10) none (.mv t0),
  .mk (some p11) none (.mv t3),
  .mk (some p12) none (.ia 3 t10 t11),
  .mk (some p13) none (.fa 0 t12),
  .mk (some p14) none (.lda 2 t13),
  .mk (some p15) none (.call p28 [t14]),
  .mk (some p16) none (.not t15)])
 (.cond t16 (.seq (.reg [.mk (some p2) none (.mv (.c (.bool false)))])
 .ret) .skip)))
 (.reg [.mk (some p8) none (.mv t3),
  .mk (some p9) none (.bin .add t8 (.c (.int .i64 (.ofNat 1)))),
  .mk (some p3) none (.mv t9)]))))))
 (.seq (.reg [.mk (some p2) none (.mv (.c (.bool true)))])
 .ret)))
 [.t p2]
def ls16 : List Nat := []

/- delver/delverref13.Unit -/
def f27 : Fd := .mk [p0]
 (.seq (.reg [.mk (some p2) none (.mv (.c (.int .i64 (.ofNat 0)))),
  .mk (some p3) none (.mv (.c (.int .i64 (.ofNat 0))))])
 (.seq (.seq (.reg [.mk (some p4) none (.mv (.c (.int .i64 (.ofNat 0))))])
 (.block 0 (.loop [p0, p4] (.seq (.seq (.reg [.mk (some p6) none (.mv t4),
  .mk (some p7) none (.mv t0),
  .mk (some p8) none (.len t7),
  .mk (some p9) none (.bin .lt t6 t8)])
 (.cond t9 .skip (.exit 0)))
 (.seq (.block 1 (.seq (.reg [.mk (some p5) none (.mv (.c (.int .i64 (.ofNat 0))))])
 (.block 2 (.loop [p0, p4, p5] (.seq (.seq (.reg [.mk (some p12) none (.mv t0),
  .mk (some p13) none (.mv t4),
  .mk (some p14) none (.ia 3 t12 t13),
  .mk (some p15) none (.fa 2 t14),
  .mk (some p16) none (.ld t15),
  .mk (some p17) none (.mv t16),
  .mk (some p18) (some (p17, true)) (.mv t5),
  .mk (some p19) (some (p17, true)) (.mv t0),
  .mk (some p20) (some (p17, true)) (.mv t4),
  .mk (some p21) (some (p17, true)) (.ia 3 t19 t20),
  .mk (some p22) (some (p17, true)) (.fa 0 t21),
  .mk (some p23) (some (p17, true)) (.fa 1 t22),
  .mk (some p24) (some (p17, true)) (.ld t23),
  .mk (some p25) (some (p17, true)) (.len t24),
  .mk (some p26) (some (p17, true)) (.bin .lt t18 t25),
  .mk (some p27) none (.pick t17 t26 (.c (.bool false)))])
 (.cond t27 .skip (.exit 2)))
 (.seq (.block 3 (.seq (.reg [.mk (some p30) none (.mv t0),
  .mk (some p31) none (.mv t4),
  .mk (some p32) none (.ia 3 t30 t31),
  .mk (some p33) none (.fa 0 t32),
  .mk (some p34) none (.fa 1 t33),
  .mk (some p35) none (.ld t34),
  .mk (some p36) none (.mv t5),
  .mk (some p37) none (.ia 2 t35 t36),
  .mk (some p38) none (.fa 1 t37),
  .mk (some p39) none (.ld t38),
  .mk (some p40) none (.call p68 [t39]),
  .mk (some p41) none (.bin .eq t40 (.c (.int .i64 (.ofNat 1))))])
 (.cond t41 (.seq (.drw [.mk true [p4] [p42] true (.mk (some p42) none (.mv t4)),
  .mk true [p0] [p43] true (.mk (some p43) none (.mv t0)),
  .mk true [p4] [p44] true (.mk (some p44) none (.mv t4)),
  .mk true [p43, p44] [p45] true (.mk (some p45) none (.ia 3 t43 t44)),
  .mk true [p45] [p46] true (.mk (some p46) none (.fa 0 t45)),
  .mk true [p46] [p47] true (.mk (some p47) none (.fa 1 t46)),
  .mk true [p47] [p48] true (.mk (some p48) none (.ld t47)),
  .mk true [p5] [p49] true (.mk (some p49) none (.mv t5)),
  .mk true [p48, p49] [p50] true (.mk (some p50) none (.ia 2 t48 t49)),
  .mk true [p50] [p51] true (.mk (some p51) none (.fa 0 t50)),
  .mk true [p51] [p52] true (.mk (some p52) none (.ld t51)),
  .mk true [p42] [p2] true (.mk (some p2) none (.mv t42)),
  .mk true [p52] [p3] true (.mk (some p3) none (.mv t52))])
 .ret) .skip)))
 (.reg [.mk (some p28) none (.mv t5),
  .mk (some p29) none (.bin .add t28 (.c (.int .i64 (.ofNat 1)))),
  .mk (some p5) none (.mv t29)])))))))
 (.reg [.mk (some p10) none (.mv t4),
  .mk (some p11) none (.bin .add t10 (.c (.int .i64 (.ofNat 1)))),
  .mk (some p4) none (.mv t11)]))))))
 (.seq (.reg [.mk (some p2) none (.mv (.c (.int .i64 (.negSucc 0)))),
  .mk (some p3) none (.mv (.c (.int .i64 (.ofNat 0))))])
 .ret)))
 [.t p2, .t p3]
def ls27 : List Nat := []

/- delver/delverlaw15.wakes -/
def f18 : Fd := .mk []
 (.seq (.reg [.mk (some p0) none (.mv (.c (.bool false)))])
 (.seq (.reg [.mk (some p14) none (.call p48 [(.c (.int .i64 (.ofNat 0))), (.c (.int .i64 (.negSucc 0))), (.c (.int .i64 (.ofNat 3)))]),
  .mk (some p15) none (.bld [(.int .i64 (.ofNat 0)), .nils, (.bool false)] [(0, 2, t14)]),
  .mk (some p16) none (.call p48 [(.c (.int .i64 (.ofNat 0))), (.c (.int .i64 (.ofNat 1))), (.c (.int .i64 (.negSucc 6)))]),
  .mk (some p17) none (.bld [(.int .i64 (.ofNat 0)), .nils, (.bool false)] [(0, 2, t16)]),
  .mk (some p18) none (.bsl 2 3 [(.int .i64 (.ofNat 0)), .nils, (.bool false), (.int .i64 (.ofNat 0)), .nils, (.bool false)] [(0, 3, t15), (3, 3, t17)]),
  .mk (some p1) none (.mv t18)])
 (.seq (.reg [.mk (some p20) none (.mv t1),
  .mk (some p21) none (.call p25 [t20, (.c (.int .i64 (.ofNat 0))), (.c .nils)]),
  .mk (some p19) none (.mv t21),
  .mk (some p22) none (.ex t19 0),
  .mk (some p23) none (.ex t19 1),
  .mk (some p24) none (.ex t19 2),
  .mk (some p2) none (.mv t22),
  .mk (some p3) none (.mv t23),
  .mk (some p4) none (.mv t24)])
 (.seq (.reg [.mk (some p26) none (.mv t1),
  .mk (some p27) none (.call p21 [t26, (.c (.int .i64 (.ofNat 0)))]),
  .mk (some p25) none (.mv t27),
  .mk (some p28) none (.ex t25 0),
  .mk (some p29) none (.ex t25 1),
  .mk (some p5) none (.mv t28),
  .mk (some p6) none (.mv t29)])
 (.seq (.reg [.mk (some p31) none (.mv t2),
  .mk (some p32) none (.mv t3),
  .mk (some p33) none (.call p35 [t31, t32]),
  .mk (some p30) none (.mv t33),
  .mk (some p34) none (.ex t30 0),
  .mk (some p35) none (.ex t30 1),
  .mk (some p7) none (.mv t34),
  .mk (some p8) none (.mv t35)])
 (.seq (.reg [.mk (some p37) none (.mv t1),
  .mk (some p38) none (.call p24 [t37, (.c (.int .i64 (.ofNat 0)))]),
  .mk (some p36) none (.mv t38),
  .mk (some p39) none (.ex t36 0),
  .mk (some p40) none (.ex t36 1),
  .mk (some p9) none (.mv t39),
  .mk (some p10) none (.mv t40)])
 (.seq (.reg [.mk (some p42) none (.mv t1),
  .mk (some p43) none (.call p17 [t42]),
  .mk (some p41) none (.mv t43),
  .mk (some p44) none (.ex t41 0),
  .mk (some p45) none (.ex t41 1),
  .mk (some p46) none (.ex t41 2),
  .mk (some p11) none (.mv t44),
  .mk (some p12) none (.mv t45),
  .mk (some p13) none (.mv t46)])
 (.seq (.reg [.mk (some p47) none (.mv t4),
  .mk (some p48) none (.bin .eq t47 (.c (.int .i64 (.ofNat 0)))),
  .mk (some p49) none (.mv t48),
  .mk (some p50) (some (p49, true)) (.mv t6),
  .mk (some p51) (some (p49, true)) (.bin .eq t50 (.c (.int .i64 (.ofNat 0)))),
  .mk (some p52) none (.pick t49 t51 (.c (.bool false))),
  .mk (some p53) none (.mv t52),
  .mk (some p54) (some (p53, true)) (.mv t8),
  .mk (some p55) none (.pick t53 t54 (.c (.bool false))),
  .mk (some p56) none (.mv t55),
  .mk (some p57) (some (p56, true)) (.mv t10),
  .mk (some p58) (some (p56, true)) (.bin .eq t57 (.c (.int .i64 (.ofNat 0)))),
  .mk (some p59) none (.pick t56 t58 (.c (.bool false))),
  .mk (some p60) none (.mv t59),
  .mk (some p61) (some (p60, true)) (.mv t2),
  .mk (some p62) (some (p60, true)) (.bin .eq t61 (.c (.int .i64 (.ofNat 3)))),
  .mk (some p63) none (.pick t60 t62 (.c (.bool false))),
  .mk (some p64) none (.mv t63),
  .mk (some p65) (some (p64, true)) (.mv t3),
  .mk (some p66) (some (p64, true)) (.bin .eq t65 (.c (.int .i64 (.ofNat 7)))),
  .mk (some p67) none (.pick t64 t66 (.c (.bool false))),
  .mk (some p68) none (.mv t67),
  .mk (some p69) (some (p68, true)) (.mv t7),
  .mk (some p70) (some (p68, true)) (.bin .eq t69 (.c (.int .i64 (.ofNat 3)))),
  .mk (some p71) none (.pick t68 t70 (.c (.bool false))),
  .mk (some p72) none (.mv t71),
  .mk (some p73) (some (p72, true)) (.mv t9),
  .mk (some p74) none (.pick t72 t73 (.c (.bool false))),
  .mk (some p75) none (.mv t74),
  .mk (some p76) (some (p75, true)) (.mv t5),
  .mk (some p77) (some (p75, true)) (.len t76),
  .mk (some p78) (some (p75, true)) (.bin .eq t77 (.c (.int .i64 (.ofNat 1)))),
  .mk (some p79) none (.pick t75 t78 (.c (.bool false))),
  .mk (some p80) none (.mv t79),
  .mk (some p81) (some (p80, true)) (.mv t5),
  .mk (some p82) (some (p80, true)) (.ia 3 t81 (.c (.int .i64 (.ofNat 0)))),
  .mk (some p83) (some (p80, true)) (.fa 0 t82),
  .mk (some p84) (some (p80, true)) (.fa 0 t83),
  .mk (some p85) (some (p80, true)) (.ld t84),
  .mk (some p86) (some (p80, true)) (.bin .eq t85 (.c (.int .i64 (.negSucc 3)))),
  .mk (some p87) none (.pick t80 t86 (.c (.bool false))),
  .mk (some p88) none (.mv t87),
  .mk (some p89) (some (p88, true)) (.mv t13),
  .mk (some p90) (some (p88, true)) (.bin .eq t89 (.c (.int .i64 (.ofNat 5)))),
  .mk (some p91) none (.pick t88 t90 (.c (.bool false))),
  .mk (some p0) none (.mv t91)])
 .ret))))))))
 [.t p0]
def ls18 : List Nat := []

/- delver/delverref13.Right -/
def f28 : Fd := .mk [p0]
 (.seq (.reg [.locb p1 t0,
  .mk (some p2) none (.mv (.c (.bool false)))])
 (.seq (.seq (.reg [.mk (some p5) none (.fa 0 t1),
  .mk (some p6) none (.ld t5),
  .mk (some p7) none (.call p69 [t6, (.c (.int .i64 (.negSucc 1099511627775))), (.c (.int .i64 (.ofNat 1099511627776)))]),
  .mk (some p8) none (.not t7),
  .mk (some p9) none (.mv t8),
  .mk (some p10) (some (p9, false)) (.fa 1 t1),
  .mk (some p11) (some (p9, false)) (.ld t10),
  .mk (some p12) (some (p9, false)) (.len t11),
  .mk (some p13) (some (p9, false)) (.bin .gt t12 (.c (.int .i64 (.ofNat 40)))),
  .mk (some p14) none (.pick t9 (.c (.bool true)) t13)])
 (.cond t14 (.seq (.reg [.mk (some p2) none (.mv (.c (.bool false)))])
 .ret) .skip))
 (.seq (.seq (.reg [.mk (some p3) none (.mv (.c (.int .i64 (.ofNat 0))))])
 (.block 0 (.loop [p1, p3] (.seq (.seq (.reg [.mk (some p15) none (.mv t3),
  .mk (some p16) none (.fa 1 t1),
  .mk (some p17) none (.ld t16),
  .mk (some p18) none (.len t17),
  .mk (some p19) none (.bin .lt t15 t18)])
 (.cond t19 .skip (.exit 0)))
 (.seq (.block 1 (.seq (.reg [.mk (some p22) none (.fa 1 t1),
  .mk (some p23) none (.ld t22),
  .mk (some p24) none (.mv t3),
  .mk (some p25) none (.ia 2 t23 t24),
  .mk (some p26) none (.lda 2 t25),
  .loc p4 [(.int .i64 (.ofNat 0)), (.int .i64 (.ofNat 0))],
  .mk none none (.st 2 t4 t26)])
 (.seq (.drw [.mk true [p4] [p27] true (.mk (some p27) none (.fa 0 t4)),
  .mk true [p4, p27] [p28] true (.mk (some p28) none (.ld t27)),
  .mk true [p28] [p29] false (.mk (some p29) none (.call p69 [t28, (.c (.int .i64 (.ofNat 0))), (.c (.int .i64 (.ofNat 39)))])),
  .mk true [p29] [p30] true (.mk (some p30) none (.not t29)),
  .mk true [p30] [p31] true (.mk (some p31) none (.mv t30)),
  .mk true [p3, p31] [p32] true (.mk (some p32) (some (p31, false)) (.mv t3)),
  .mk true [p32, p31] [p33] true (.mk (some p33) (some (p31, false)) (.bin .gt t32 (.c (.int .i64 (.ofNat 0))))),
  .mk true [p33, p31] [p34] true (.mk (some p34) (some (p31, false)) (.mv t33)),
  .mk true [p4, p34] [p35] true (.mk (some p35) (some (p34, true)) (.fa 0 t4)),
  .mk true [p4, p35, p34] [p36] true (.mk (some p36) (some (p34, true)) (.ld t35)),
  .mk true [p1, p34] [p37] true (.mk (some p37) (some (p34, true)) (.fa 1 t1)),
  .mk true [p1, p37, p34] [p38] true (.mk (some p38) (some (p34, true)) (.ld t37)),
  .mk true [p3, p34] [p39] true (.mk (some p39) (some (p34, true)) (.mv t3)),
  .mk true [p39, p34] [p40] true (.mk (some p40) (some (p34, true)) (.bin .sub t39 (.c (.int .i64 (.ofNat 1))))),
  .mk true [p38, p40, p34] [p41] true (.mk (some p41) (some (p34, true)) (.ia 2 t38 t40)),
  .mk true [p41, p34] [p42] true (.mk (some p42) (some (p34, true)) (.fa 0 t41)),
  .mk true [p42, p34] [p43] true (.mk (some p43) (some (p34, true)) (.ld t42)),
  .mk true [p36, p43, p34] [p44] true (.mk (some p44) (some (p34, true)) (.bin .le t36 t43)),
  .mk true [p34, p44, p31] [p45] true (.mk (some p45) (some (p31, false)) (.pick t34 t44 (.c (.bool false)))),
  .mk true [p31, p45] [p46] true (.mk (some p46) none (.pick t31 (.c (.bool true)) t45)),
  .mk true [p46] [p47] true (.mk (some p47) none (.mv t46)),
  .mk true [p4, p47] [p48] true (.mk (some p48) (some (p47, false)) (.fa 1 t4)),
  .mk true [p4, p48, p47] [p49] true (.mk (some p49) (some (p47, false)) (.ld t48)),
  .mk true [p49, p47] [p50] false (.mk (some p50) (some (p47, false)) (.call p69 [t49, (.c (.int .i64 (.negSucc 1048575))), (.c (.int .i64 (.ofNat 1048576)))])),
  .mk true [p50, p47] [p51] true (.mk (some p51) (some (p47, false)) (.not t50)),
  .mk true [p47, p51] [p52] true (.mk (some p52) none (.pick t47 (.c (.bool true)) t51)),
  .mk true [p52] [p53] true (.mk (some p53) none (.mv t52)),
  .mk true [p4, p53] [p54] true (.mk (some p54) (some (p53, false)) (.fa 1 t4)),
  .mk true [p4, p54, p53] [p55] true (.mk (some p55) (some (p53, false)) (.ld t54)),
  .mk true [p55, p53] [p56] true (.mk (some p56) (some (p53, false)) (.bin .eq t55 (.c (.int .i64 (.ofNat 0))))),
  .mk true [p53, p56] [p57] true (.mk (some p57) none (.pick t53 (.c (.bool true)) t56))])
 (.cond t57 (.seq (.reg [.mk (some p2) none (.mv (.c (.bool false)))])
 .ret) .skip))))
 (.reg [.mk (some p20) none (.mv t3),
  .mk (some p21) none (.bin .add t20 (.c (.int .i64 (.ofNat 1)))),
  .mk (some p3) none (.mv t21)]))))))
 (.seq (.reg [.mk (some p2) none (.mv (.c (.bool true)))])
 .ret))))
 [.t p2]
def ls28 : List Nat := [1, 4]

/- delver/delverref13.Swap -/
def f29 : Fd := .mk [p0, p1, p2]
 (.seq (.reg [.locb p5 t2,
  .mk (some p6) none (.mv (.c .nils)),
  .mk (some p7) none (.mv (.c (.bool false)))])
 (.seq (.reg [.mk (some p8) none (.mv (.c .nils))])
 (.seq (.seq (.reg [.mk (some p9) none (.mv (.c (.int .i64 (.ofNat 0))))])
 (.block 0 (.loop [p0, p1, p5, p8, p9] (.seq (.seq (.reg [.mk (some p12) none (.mv t9),
  .mk (some p13) none (.mv t0),
  .mk (some p14) none (.len t13),
  .mk (some p15) none (.bin .lt t12 t14)])
 (.cond t15 .skip (.exit 0)))
 (.seq (.block 1 (.seq (.drw [.mk true [p0] [p19] true (.mk (some p19) none (.mv t0)),
  .mk true [p9] [p20] true (.mk (some p20) none (.mv t9)),
  .mk true [p19, p20] [p21] true (.mk (some p21) none (.ia 3 t19 t20)),
  .mk true [p21] [p22] true (.mk (some p22) none (.fa 0 t21)),
  .mk true [p22] [p23] true (.mk (some p23) none (.lda 2 t22)),
  .mk true [p1] [p24] true (.mk (some p24) none (.mv t1)),
  .mk true [p5] [p25] true (.mk (some p25) none (.lda 2 t5)),
  .mk true [p23, p24, p25] [p26] true (.mk (some p26) none (.call p70 [t23, t24, t25])),
  .mk true [p26] [p18] true (.mk (some p18) none (.mv t26)),
  .mk true [p18] [p27] true (.mk (some p27) none (.ex t18 0)),
  .mk true [p18] [p28] true (.mk (some p28) none (.ex t18 1)),
  .mk true [p10] [p10] true (.loc p10 [(.int .i64 (.ofNat 0)), .nils]),
  .mk true [p10, p27] [p10] true (.mk none none (.st 2 t10 t27)),
  .mk true [p28] [p11] true (.mk (some p11) none (.mv t28))])
 (.seq (.seq (.reg [.mk (some p29) none (.mv t11),
  .mk (some p30) none (.not t29)])
 (.cond t30 (.seq (.reg [.mk (some p6) none (.mv (.c .nils)),
  .mk (some p7) none (.mv (.c (.bool false)))])
 .ret) .skip))
 (.drw [.mk true [p8] [p31] true (.mk (some p31) none (.mv t8)),
  .mk true [p10] [p32] true (.mk (some p32) none (.lda 2 t10)),
  .mk true [p0] [p33] true (.mk (some p33) none (.mv t0)),
  .mk true [p9] [p34] true (.mk (some p34) none (.mv t9)),
  .mk true [p33, p34] [p35] true (.mk (some p35) none (.ia 3 t33 t34)),
  .mk true [p35] [p36] true (.mk (some p36) none (.fa 2 t35)),
  .mk true [p36] [p37] true (.mk (some p37) none (.ld t36)),
  .mk true [p32, p37] [p38] true (.mk (some p38) none (.bld [(.int .i64 (.ofNat 0)), .nils, (.bool false)] [(0, 2, t32), (2, 1, t37)])),
  .mk true [p38] [p39] true (.mk (some p39) none (.bsl 1 3 [(.int .i64 (.ofNat 0)), .nils, (.bool false)] [(0, 3, t38)])),
  .mk true [p31, p39] [p40] false (.mk (some p40) none (.app 3 40 t31 t39)),
  .mk true [p40] [p8] true (.mk (some p8) none (.mv t40))]))))
 (.reg [.mk (some p16) none (.mv t9),
  .mk (some p17) none (.bin .add t16 (.c (.int .i64 (.ofNat 1)))),
  .mk (some p9) none (.mv t17)]))))))
 (.seq (.reg [.mk (some p41) none (.mv t8),
  .mk (some p6) none (.mv t41),
  .mk (some p7) none (.mv (.c (.bool true)))])
 .ret))))
 [.t p6, .t p7]
def ls29 : List Nat := [5, 10]

/- delver/delverref13.EqHas -/
def f19 : Fd := .mk [p0, p1]
 (.seq (.reg [.mk (some p4) none (.mv (.c (.bool false)))])
 (.seq (.seq (.reg [.mk (some p5) none (.mv (.c (.int .i64 (.ofNat 0))))])
 (.block 0 (.loop [p0, p1, p5] (.seq (.seq (.reg [.mk (some p6) none (.mv t5),
  .mk (some p7) none (.mv t0),
  .mk (some p8) none (.len t7),
  .mk (some p9) none (.bin .lt t6 t8)])
 (.cond t9 .skip (.exit 0)))
 (.seq (.block 1 (.seq (.reg [.mk (some p12) none (.mv t0),
  .mk (some p13) none (.mv t5),
  .mk (some p14) none (.ia 3 t12 t13),
  .mk (some p15) none (.fa 2 t14),
  .mk (some p16) none (.ld t15),
  .mk (some p17) none (.mv t16),
  .mk (some p18) (some (p17, true)) (.mv t0),
  .mk (some p19) (some (p17, true)) (.mv t5),
  .mk (some p20) (some (p17, true)) (.ia 3 t18 t19),
  .mk (some p21) (some (p17, true)) (.fa 0 t20),
  .mk (some p22) (some (p17, true)) (.lda 2 t21),
  .mk (some p23) (some (p17, true)) (.mv t1),
  .mk (some p24) (some (p17, true)) (.call p20 [t22, t23]),
  .mk (some p25) (some (p17, true)) (.bin .ne t24 (.c (.int .i64 (.ofNat 0)))),
  .mk (some p26) none (.pick t17 t25 (.c (.bool false)))])
 (.cond t26 (.seq (.reg [.mk (some p4) none (.mv (.c (.bool true)))])
 .ret) .skip)))
 (.reg [.mk (some p10) none (.mv t5),
  .mk (some p11) none (.bin .add t10 (.c (.int .i64 (.ofNat 1)))),
  .mk (some p5) none (.mv t11)]))))))
 (.seq (.reg [.mk (some p4) none (.mv (.c (.bool false)))])
 .ret)))
 [.t p4]
def ls19 : List Nat := []

/- delver/delverlaw15.equal -/
def f30 : Fd := .mk [p0, p1, p2]
 (.seq (.reg [.mk (some p6) none (.mv (.c (.bool false)))])
 (.seq (.seq (.reg [.mk (some p11) none (.mv t0),
  .mk (some p12) none (.len t11),
  .mk (some p13) none (.bin .eq t12 (.c (.int .i64 (.ofNat 0))))])
 (.cond t13 (.seq (.reg [.mk (some p6) none (.mv (.c (.bool true)))])
 .ret) .skip))
 (.seq (.reg [.mk (some p14) none (.mv t0),
  .mk (some p15) none (.mv t2),
  .mk (some p16) none (.cv .u64 t15),
  .mk (some p17) none (.mv t0),
  .mk (some p18) none (.len t17),
  .mk (some p19) none (.cv .u64 t18),
  .mk (some p20) none (.bin .rem t16 t19),
  .mk (some p21) none (.cv .i64 t20),
  .mk (some p22) none (.ia 3 t14 t21),
  .mk (some p23) none (.lda 3 t22),
  .loc p7 [(.int .i64 (.ofNat 0)), .nils, (.bool false)],
  .mk none none (.st 3 t7 t23)])
 (.seq (.reg [.mk (some p25) none (.lda 3 t7),
  .mk (some p26) none (.mv t1),
  .mk (some p27) none (.call p37 [t25, t26]),
  .mk (some p24) none (.mv t27),
  .mk (some p28) none (.ex t24 0),
  .mk (some p29) none (.ex t24 1),
  .loc p8 [(.int .i64 (.ofNat 0)), .nils],
  .mk none none (.st 2 t8 t28),
  .mk (some p9) none (.mv t29)])
 (.seq (.reg [.mk (some p30) none (.fa 0 t7),
  .mk (some p31) none (.lda 2 t30),
  .mk (some p32) none (.mv t1),
  .mk (some p33) none (.call p20 [t31, t32]),
  .mk (some p10) none (.mv t33)])
 (.seq (.seq (.reg [.mk (some p34) none (.fa 2 t7),
  .mk (some p35) none (.ld t34),
  .mk (some p36) none (.not t35),
  .mk (some p37) none (.mv t36),
  .mk (some p38) (some (p37, false)) (.mv t10),
  .mk (some p39) (some (p37, false)) (.bin .ne t38 (.c (.int .i64 (.ofNat 1)))),
  .mk (some p40) (some (p37, false)) (.mv t39),
  .mk (some p41) (some (p40, true)) (.mv t10),
  .mk (some p42) (some (p40, true)) (.bin .ne t41 (.c (.int .i64 (.negSucc 0)))),
  .mk (some p43) (some (p37, false)) (.pick t40 t42 (.c (.bool false))),
  .mk (some p44) none (.pick t37 (.c (.bool true)) t43)])
 (.cond t44 (.seq (.reg [.mk (some p45) none (.mv t9),
  .mk (some p46) none (.bin .eq t45 (.c (.int .i64 (.ofNat 11)))),
  .mk (some p47) none (.mv t46),
  .mk (some p48) (some (p47, true)) (.lda 2 t8),
  .mk (some p49) (some (p47, true)) (.bld [(.int .i64 (.ofNat 0)), .nils] []),
  .mk (some p50) (some (p47, true)) (.call p56 [t48, t49]),
  .mk (some p51) none (.pick t47 t50 (.c (.bool false))),
  .mk (some p6) none (.mv t51)])
 .ret) .skip))
 (.seq (.drw [.mk true [p9] [p52] true (.mk (some p52) none (.mv t9)),
  .mk true [p52] [p53] true (.mk (some p53) none (.bin .eq t52 (.c (.int .i64 (.ofNat 0))))),
  .mk true [p53] [p54] true (.mk (some p54) none (.mv t53)),
  .mk true [p8, p54] [p55] true (.mk (some p55) (some (p54, true)) (.lda 2 t8)),
  .mk true [p7, p54] [p56] true (.mk (some p56) (some (p54, true)) (.lda 3 t7)),
  .mk true [p1, p54] [p57] true (.mk (some p57) (some (p54, true)) (.mv t1)),
  .mk true [p56, p57, p54] [p58] true (.mk (some p58) (some (p54, true)) (.call p71 [t56, t57])),
  .mk true [p55, p58, p54] [p59] false (.mk (some p59) (some (p54, true)) (.call p56 [t55, t58])),
  .mk true [p54, p59] [p60] true (.mk (some p60) none (.pick t54 t59 (.c (.bool false)))),
  .mk true [p60] [p6] true (.mk (some p6) none (.mv t60))])
 .ret)))))))
 [.t p6]
def ls30 : List Nat := [7, 8]

/- delver/delverref13.Exact -/
def f31 : Fd := .mk [p0, p1]
 (.seq (.reg [.mk (some p4) none (.mv (.c (.bool false)))])
 (.seq (.reg [.mk (some p5) none (.mv (.c (.bool true))),
  .mk (some p6) none (.mv (.c (.bool true)))])
 (.seq (.seq (.reg [.mk (some p7) none (.mv (.c (.int .i64 (.ofNat 0))))])
 (.block 0 (.loop [p0, p1, p5, p6, p7] (.seq (.seq (.reg [.mk (some p9) none (.mv t7),
  .mk (some p10) none (.mv t0),
  .mk (some p11) none (.len t10),
  .mk (some p12) none (.bin .lt t9 t11)])
 (.cond t12 .skip (.exit 0)))
 (.seq (.block 1 (.seq (.reg [.mk (some p15) none (.mv t0),
  .mk (some p16) none (.mv t7),
  .mk (some p17) none (.ia 3 t15 t16),
  .mk (some p18) none (.fa 0 t17),
  .mk (some p19) none (.lda 2 t18),
  .mk (some p20) none (.mv t1),
  .mk (some p21) none (.call p20 [t19, t20]),
  .mk (some p8) none (.mv t21)])
 (.reg [.mk (some p22) none (.mv t5),
  .mk (some p23) none (.mv t22),
  .mk (some p24) (some (p23, true)) (.mv t8),
  .mk (some p25) (some (p23, true)) (.bin .ge t24 (.c (.int .i64 (.ofNat 0)))),
  .mk (some p26) (some (p23, true)) (.mv t25),
  .mk (some p27) (some (p26, false)) (.mv t8),
  .mk (some p28) (some (p26, false)) (.bin .eq t27 (.c (.int .i64 (.negSucc 0)))),
  .mk (some p29) (some (p23, true)) (.pick t26 (.c (.bool true)) t28),
  .mk (some p30) none (.pick t23 t29 (.c (.bool false))),
  .mk (some p31) none (.mv t6),
  .mk (some p32) none (.mv t31),
  .mk (some p33) (some (p32, true)) (.mv t8),
  .mk (some p34) (some (p32, true)) (.bin .le t33 (.c (.int .i64 (.ofNat 0)))),
  .mk (some p35) (some (p32, true)) (.mv t34),
  .mk (some p36) (some (p35, false)) (.mv t8),
  .mk (some p37) (some (p35, false)) (.bin .eq t36 (.c (.int .i64 (.ofNat 1)))),
  .mk (some p38) (some (p32, true)) (.pick t35 (.c (.bool true)) t37),
  .mk (some p39) none (.pick t32 t38 (.c (.bool false))),
  .mk (some p5) none (.mv t30),
  .mk (some p6) none (.mv t39)])))
 (.reg [.mk (some p13) none (.mv t7),
  .mk (some p14) none (.bin .add t13 (.c (.int .i64 (.ofNat 1)))),
  .mk (some p7) none (.mv t14)]))))))
 (.seq (.reg [.mk (some p40) none (.mv t5),
  .mk (some p41) none (.mv t40),
  .mk (some p42) (some (p41, false)) (.mv t6),
  .mk (some p43) none (.pick t41 (.c (.bool true)) t42),
  .mk (some p4) none (.mv t43)])
 .ret))))
 [.t p4]
def ls31 : List Nat := []

/- delver/delverref13.Drop -/
def f32 : Fd := .mk [p0, p1]
 (.seq (.reg [.mk (some p4) none (.mv (.c .nils)),
  .mk (some p5) none (.mv (.c (.bool false)))])
 (.seq (.reg [.mk (some p6) none (.mv (.c .nils))])
 (.seq (.seq (.reg [.mk (some p7) none (.mv (.c (.int .i64 (.ofNat 0))))])
 (.block 0 (.loop [p0, p1, p6, p7] (.seq (.seq (.reg [.mk (some p17) none (.mv t7),
  .mk (some p18) none (.mv t0),
  .mk (some p19) none (.len t18),
  .mk (some p20) none (.bin .lt t17 t19)])
 (.cond t20 .skip (.exit 0)))
 (.seq (.block 1 (.seq (.reg [.mk (some p23) none (.mv t0),
  .mk (some p24) none (.mv t7),
  .mk (some p25) none (.ia 3 t23 t24),
  .mk (some p26) none (.fa 0 t25),
  .mk (some p27) none (.lda 2 t26),
  .mk (some p28) none (.mv t1),
  .mk (some p29) none (.call p20 [t27, t28]),
  .mk (some p30) none (.bin .eq t29 (.c (.int .i64 (.ofNat 0))))])
 (.cond t30 (.reg [.mk (some p31) none (.mv t6),
  .mk (some p32) none (.mv t0),
  .mk (some p33) none (.mv t7),
  .mk (some p34) none (.mv t7),
  .mk (some p35) none (.bin .add t34 (.c (.int .i64 (.ofNat 1)))),
  .mk (some p36) none (.sla 3 t32 (some t33) (some t35) none),
  .mk (some p37) none (.call p23 [t36]),
  .mk (some p38) none (.app 3 40 t31 t37),
  .mk (some p6) none (.mv t38)]) .skip)))
 (.reg [.mk (some p21) none (.mv t7),
  .mk (some p22) none (.bin .add t21 (.c (.int .i64 (.ofNat 1)))),
  .mk (some p7) none (.mv t22)]))))))
 (.seq (.seq (.reg [.mk (some p8) none (.mv (.c (.int .i64 (.ofNat 0))))])
 (.block 2 (.loop [p0, p1, p6, p8] (.seq (.seq (.reg [.mk (some p39) none (.mv t8),
  .mk (some p40) none (.mv t0),
  .mk (some p41) none (.len t40),
  .mk (some p42) none (.bin .lt t39 t41)])
 (.cond t42 .skip (.exit 2)))
 (.seq (.block 3 (.seq (.reg [.mk (some p45) none (.mv t0),
  .mk (some p46) none (.mv t8),
  .mk (some p47) none (.ia 3 t45 t46),
  .mk (some p48) none (.fa 0 t47),
  .mk (some p49) none (.lda 2 t48),
  .mk (some p50) none (.mv t1),
  .mk (some p51) none (.call p20 [t49, t50]),
  .mk (some p9) none (.mv t51)])
 (.seq (.seq (.reg [.mk (some p52) none (.mv t9),
  .mk (some p53) none (.bin .ge t52 (.c (.int .i64 (.ofNat 0))))])
 (.cond t53 (.exit 3) .skip))
 (.seq (.reg [.mk (some p10) none (.mv (.c (.int .i64 (.ofNat 0))))])
 (.block 4 (.loop [p0, p1, p6, p8, p9, p10] (.seq (.seq (.reg [.mk (some p54) none (.mv t10),
  .mk (some p55) none (.mv t0),
  .mk (some p56) none (.len t55),
  .mk (some p57) none (.bin .lt t54 t56)])
 (.cond t57 .skip (.exit 4)))
 (.seq (.block 5 (.seq (.reg [.mk (some p60) none (.mv t0),
  .mk (some p61) none (.mv t10),
  .mk (some p62) none (.ia 3 t60 t61),
  .mk (some p63) none (.fa 0 t62),
  .mk (some p64) none (.lda 2 t63),
  .mk (some p65) none (.mv t1),
  .mk (some p66) none (.call p20 [t64, t65]),
  .mk (some p11) none (.mv t66)])
 (.seq (.seq (.reg [.mk (some p67) none (.mv t11),
  .mk (some p68) none (.bin .le t67 (.c (.int .i64 (.ofNat 0))))])
 (.cond t68 (.exit 5) .skip))
 (.seq (.reg [.mk (some p70) none (.mv t0),
  .mk (some p71) none (.mv t10),
  .mk (some p72) none (.ia 3 t70 t71),
  .mk (some p73) none (.fa 0 t72),
  .mk (some p74) none (.lda 2 t73),
  .mk (some p75) none (.mv t9),
  .mk (some p76) none (.bin .sub (.c (.int .i64 (.ofNat 0))) t75),
  .mk (some p77) none (.call p72 [t74, t76]),
  .mk (some p69) none (.mv t77),
  .mk (some p78) none (.ex t69 0),
  .mk (some p79) none (.ex t69 1),
  .loc p12 [(.int .i64 (.ofNat 0)), .nils],
  .mk none none (.st 2 t12 t78),
  .mk (some p13) none (.mv t79)])
 (.seq (.reg [.mk (some p81) none (.mv t0),
  .mk (some p82) none (.mv t8),
  .mk (some p83) none (.ia 3 t81 t82),
  .mk (some p84) none (.fa 0 t83),
  .mk (some p85) none (.lda 2 t84),
  .mk (some p86) none (.mv t11),
  .mk (some p87) none (.call p72 [t85, t86]),
  .mk (some p80) none (.mv t87),
  .mk (some p88) none (.ex t80 0),
  .mk (some p89) none (.ex t80 1),
  .loc p14 [(.int .i64 (.ofNat 0)), .nils],
  .mk none none (.st 2 t14 t88),
  .mk (some p15) none (.mv t89)])
 (.seq (.seq (.reg [.mk (some p90) none (.mv t13),
  .mk (some p91) none (.not t90),
  .mk (some p92) none (.mv t91),
  .mk (some p93) (some (p92, false)) (.mv t15),
  .mk (some p94) (some (p92, false)) (.not t93),
  .mk (some p95) none (.pick t92 (.c (.bool true)) t94)])
 (.cond t95 (.seq (.reg [.mk (some p4) none (.mv (.c .nils)),
  .mk (some p5) none (.mv (.c (.bool false)))])
 .ret) .skip))
 (.seq (.reg [.mk (some p97) none (.lda 2 t12),
  .mk (some p98) none (.lda 2 t14),
  .mk (some p99) none (.call p73 [t97, t98]),
  .mk (some p96) none (.mv t99),
  .mk (some p100) none (.ex t96 0),
  .mk (some p101) none (.ex t96 1),
  .loc p16 [(.int .i64 (.ofNat 0)), .nils],
  .mk none none (.st 2 t16 t100),
  .mk (some p13) none (.mv t101)])
 (.seq (.seq (.reg [.mk (some p102) none (.mv t13),
  .mk (some p103) none (.not t102)])
 (.cond t103 (.seq (.reg [.mk (some p4) none (.mv (.c .nils)),
  .mk (some p5) none (.mv (.c (.bool false)))])
 .ret) .skip))
 (.reg [.mk (some p104) none (.mv t6),
  .mk (some p105) none (.lda 2 t16),
  .mk (some p106) none (.bld [(.int .i64 (.ofNat 0)), .nils, (.bool false)] [(0, 2, t105)]),
  .mk (some p107) none (.bsl 1 3 [(.int .i64 (.ofNat 0)), .nils, (.bool false)] [(0, 3, t106)]),
  .mk (some p108) none (.app 3 40 t104 t107),
  .mk (some p6) none (.mv t108)])))))))))
 (.reg [.mk (some p58) none (.mv t10),
  .mk (some p59) none (.bin .add t58 (.c (.int .i64 (.ofNat 1)))),
  .mk (some p10) none (.mv t59)])))))))))
 (.reg [.mk (some p43) none (.mv t8),
  .mk (some p44) none (.bin .add t43 (.c (.int .i64 (.ofNat 1)))),
  .mk (some p8) none (.mv t44)]))))))
 (.seq (.reg [.mk (some p109) none (.mv t6),
  .mk (some p4) none (.mv t109),
  .mk (some p5) none (.mv (.c (.bool true)))])
 .ret)))))
 [.t p4, .t p5]
def ls32 : List Nat := [12, 14, 16]

/- delver/delverlaw15.spanMay -/
def f33 : Fd := .mk [p0, p1, p2]
 (.seq (.reg [.mk (some p6) none (.mv (.c (.int .i64 (.ofNat 0))))])
 (.seq (.seq (.reg [.mk (some p7) none (.mv (.c (.int .i64 (.ofNat 0))))])
 (.block 0 (.loop [p0, p1, p2, p7] (.seq (.seq (.reg [.mk (some p10) none (.mv t7),
  .mk (some p11) none (.mv t0),
  .mk (some p12) none (.len t11),
  .mk (some p13) none (.bin .lt t10 t12)])
 (.cond t13 .skip (.exit 0)))
 (.seq (.block 1 (.seq (.reg [.mk (some p8) none (.mv (.c (.int .i64 (.ofNat 0))))])
 (.block 2 (.loop [p0, p1, p2, p7, p8] (.seq (.seq (.reg [.mk (some p16) none (.mv t0),
  .mk (some p17) none (.mv t7),
  .mk (some p18) none (.ia 3 t16 t17),
  .mk (some p19) none (.fa 0 t18),
  .mk (some p20) none (.lda 2 t19),
  .mk (some p21) none (.mv t1),
  .mk (some p22) none (.call p20 [t20, t21]),
  .mk (some p23) none (.bin .ne t22 (.c (.int .i64 (.ofNat 0)))),
  .mk (some p24) none (.mv t23),
  .mk (some p25) (some (p24, true)) (.mv t8),
  .mk (some p26) (some (p24, true)) (.mv t0),
  .mk (some p27) (some (p24, true)) (.mv t7),
  .mk (some p28) (some (p24, true)) (.ia 3 t26 t27),
  .mk (some p29) (some (p24, true)) (.fa 0 t28),
  .mk (some p30) (some (p24, true)) (.fa 1 t29),
  .mk (some p31) (some (p24, true)) (.ld t30),
  .mk (some p32) (some (p24, true)) (.len t31),
  .mk (some p33) (some (p24, true)) (.bin .lt t25 t32),
  .mk (some p34) none (.pick t24 t33 (.c (.bool false)))])
 (.cond t34 .skip (.exit 2)))
 (.seq (.block 3 (.seq (.reg [.mk (some p37) none (.mv t0),
  .mk (some p38) none (.mv t7),
  .mk (some p39) none (.ia 3 t37 t38),
  .mk (some p40) none (.fa 0 t39),
  .mk (some p41) none (.fa 1 t40),
  .mk (some p42) none (.ld t41),
  .mk (some p43) none (.mv t8),
  .mk (some p44) none (.ia 2 t42 t43),
  .mk (some p45) none (.fa 0 t44),
  .mk (some p46) none (.ld t45),
  .mk (some p9) none (.mv t46)])
 (.seq (.reg [.mk (some p47) none (.mv t9),
  .mk (some p48) none (.mv t1),
  .mk (some p49) none (.bin .ne t47 t48),
  .mk (some p50) none (.mv t49),
  .mk (some p51) (some (p50, true)) (.mv t9),
  .mk (some p52) (some (p50, true)) (.mv t2),
  .mk (some p53) (some (p50, true)) (.len t52),
  .mk (some p54) (some (p50, true)) (.bin .ge t51 t53),
  .mk (some p55) none (.pick t50 t54 (.c (.bool false)))])
 (.cond t55 (.seq (.reg [.mk (some p6) none (.mv (.c (.int .i64 (.ofNat 5))))])
 .ret) .skip))))
 (.reg [.mk (some p35) none (.mv t8),
  .mk (some p36) none (.bin .add t35 (.c (.int .i64 (.ofNat 1)))),
  .mk (some p8) none (.mv t36)])))))))
 (.reg [.mk (some p14) none (.mv t7),
  .mk (some p15) none (.bin .add t14 (.c (.int .i64 (.ofNat 1)))),
  .mk (some p7) none (.mv t15)]))))))
 (.seq (.reg [.mk (some p56) none (.bld [(.int .i64 (.ofNat 0)), .nils] []),
  .mk (some p57) none (.mv t2),
  .mk (some p58) none (.call p38 [t56, t57]),
  .mk (some p6) none (.mv t58)])
 .ret)))
 [.t p6]
def ls33 : List Nat := []

/- delver/delverref13.Span -/
def f34 : Fd := .mk [p0, p1, p2]
 (.seq (.reg [.mk (some p6) none (.mv (.c (.int .i64 (.ofNat 0)))),
  .mk (some p7) none (.mv (.c (.int .i64 (.ofNat 0))))])
 (.seq (.reg [.mk (some p8) none (.mv (.c (.int .i64 (.negSucc 2147483647)))),
  .mk (some p9) none (.mv (.c (.int .i64 (.ofNat 2147483647))))])
 (.seq (.seq (.reg [.mk (some p10) none (.mv (.c (.int .i64 (.ofNat 0))))])
 (.block 0 (.loop [p0, p1, p2, p8, p9, p10] (.seq (.seq (.reg [.mk (some p13) none (.mv t10),
  .mk (some p14) none (.mv t0),
  .mk (some p15) none (.len t14),
  .mk (some p16) none (.bin .lt t13 t15)])
 (.cond t16 .skip (.exit 0)))
 (.seq (.block 1 (.seq (.reg [.mk (some p19) none (.mv t0),
  .mk (some p20) none (.mv t10),
  .mk (some p21) none (.ia 3 t19 t20),
  .mk (some p22) none (.fa 0 t21),
  .mk (some p23) none (.lda 2 t22),
  .mk (some p24) none (.mv t1),
  .mk (some p25) none (.call p20 [t23, t24]),
  .mk (some p11) none (.mv t25)])
 (.seq (.seq (.reg [.mk (some p26) none (.mv t11),
  .mk (some p27) none (.bin .eq t26 (.c (.int .i64 (.ofNat 0))))])
 (.cond t27 (.exit 1) .skip))
 (.seq (.reg [.mk (some p28) none (.mv t0),
  .mk (some p29) none (.mv t10),
  .mk (some p30) none (.ia 3 t28 t29),
  .mk (some p31) none (.fa 0 t30),
  .mk (some p32) none (.lda 2 t31),
  .mk (some p33) none (.mv t1),
  .mk (some p34) none (.call p74 [t32, t33]),
  .mk (some p35) none (.mv t2),
  .mk (some p36) none (.call p40 [t34, t35]),
  .mk (some p12) none (.mv t36)])
 (.seq (.reg [.mk (some p37) none (.mv t11),
  .mk (some p38) none (.bin .gt t37 (.c (.int .i64 (.ofNat 0))))])
 (.cond t38 (.reg [.mk (some p39) none (.mv t9),
  .mk (some p40) none (.mv t12),
  .mk (some p41) none (.bin .sub (.c (.int .i64 (.ofNat 0))) t40),
  .mk (some p42) none (.mv t11),
  .mk (some p43) none (.call p75 [t41, t42]),
  .mk (some p44) none (.mn t39 [t43]),
  .mk (some p45) none (.mx t44 [(.c (.int .i64 (.negSucc 2147483647)))]),
  .mk (some p9) none (.mv t45)]) (.reg [.mk (some p46) none (.mv t8),
  .mk (some p47) none (.mv t12),
  .mk (some p48) none (.mv t11),
  .mk (some p49) none (.bin .sub (.c (.int .i64 (.ofNat 0))) t48),
  .mk (some p50) none (.call p76 [t47, t49]),
  .mk (some p51) none (.mx t46 [t50]),
  .mk (some p52) none (.mn t51 [(.c (.int .i64 (.ofNat 2147483647)))]),
  .mk (some p8) none (.mv t52)])))))))
 (.reg [.mk (some p17) none (.mv t10),
  .mk (some p18) none (.bin .add t17 (.c (.int .i64 (.ofNat 1)))),
  .mk (some p10) none (.mv t18)]))))))
 (.seq (.reg [.mk (some p53) none (.mv t8),
  .mk (some p54) none (.mv t9),
  .mk (some p6) none (.mv t53),
  .mk (some p7) none (.mv t54)])
 .ret))))
 [.t p6, .t p7]
def ls34 : List Nat := []

/- delver/shade.Pick -/
def f35 : Fd := .mk [p0, p1]
 (.seq (.reg [.mk (some p4) none (.mv (.c (.int .i64 (.ofNat 0)))),
  .mk (some p5) none (.mv (.c (.bool false)))])
 (.seq (.seq (.reg [.mk (some p6) none (.mv t0),
  .mk (some p7) none (.mv t1),
  .mk (some p8) none (.bin .gt t6 t7)])
 (.cond t8 (.seq (.reg [.mk (some p4) none (.mv (.c (.int .i64 (.ofNat 0)))),
  .mk (some p5) none (.mv (.c (.bool false)))])
 .ret) .skip))
 (.seq (.reg [.mk (some p9) none (.mv t0),
  .mk (some p10) none (.mx (.c (.int .i64 (.ofNat 0))) [t9]),
  .mk (some p11) none (.mv t1),
  .mk (some p12) none (.mn t10 [t11]),
  .mk (some p4) none (.mv t12),
  .mk (some p5) none (.mv (.c (.bool true)))])
 .ret)))
 [.t p4, .t p5]
def ls35 : List Nat := []

/- delver/delverref13.Pick -/
def f36 : Fd := .mk [p0, p1]
 (.seq (.reg [.mk (some p4) none (.mv (.c (.int .i64 (.ofNat 0)))),
  .mk (some p5) none (.mv (.c (.bool false)))])
 (.seq (.block 0 (.seq (.reg [.mk (some p7) none (.mv t0),
  .mk (some p8) none (.mv t1),
  .mk (some p9) none (.bin .gt t7 t8),
  .mk (some p6) none (.mv t9)])
 (.cond t6 (.seq (.reg [.mk (some p4) none (.mv (.c (.int .i64 (.ofNat 0)))),
  .mk (some p5) none (.mv (.c (.bool false)))])
 .ret) (.seq (.reg [.mk (some p11) none (.mv t0),
  .mk (some p12) none (.bin .gt t11 (.c (.int .i64 (.ofNat 0)))),
  .mk (some p10) none (.mv t12)])
 (.cond t10 (.seq (.reg [.mk (some p13) none (.mv t0),
  .mk (some p4) none (.mv t13),
  .mk (some p5) none (.mv (.c (.bool true)))])
 .ret) (.seq (.reg [.mk (some p15) none (.mv t1),
  .mk (some p16) none (.bin .lt t15 (.c (.int .i64 (.ofNat 0)))),
  .mk (some p14) none (.mv t16)])
 (.cond t14 (.seq (.reg [.mk (some p17) none (.mv t1),
  .mk (some p4) none (.mv t17),
  .mk (some p5) none (.mv (.c (.bool true)))])
 .ret) .skip)))))))
 (.seq (.reg [.mk (some p4) none (.mv (.c (.int .i64 (.ofNat 0)))),
  .mk (some p5) none (.mv (.c (.bool true)))])
 .ret)))
 [.t p4, .t p5]
def ls36 : List Nat := []

/- delver/delverlaw13.Heavy -/
def f49 : Fd := .mk [p0]
 (.seq (.reg [.locb p1 t0,
  .mk (some p2) none (.mv (.c (.bool false)))])
 (.seq (.reg [.mk (some p3) none (.fa 1 t1),
  .mk (some p4) none (.ld t3),
  .mk (some p5) none (.len t4),
  .mk (some p6) none (.bin .gt t5 (.c (.int .i64 (.ofNat 60)))),
  .mk (some p2) none (.mv t6)])
 .ret))
 [.t p2]
def ls49 : List Nat := [1]

/- delver/delverkeep.TwinTerm -/
def f57 : Fd := .mk [p0]
 (.seq (.reg [.locb p1 t0,
  .loc p2 [(.int .i64 (.ofNat 0)), .nils]])
 (.seq (.reg [.mk (some p3) none (.mv (.c .nils))])
 (.seq (.drw [.mk true [p1] [p4] true (.mk (some p4) none (.fa 0 t1)),
  .mk true [p1, p4] [p5] true (.mk (some p5) none (.ld t4)),
  .mk true [p3] [p6] true (.mk (some p6) none (.mv t3)),
  .mk true [p1] [p7] true (.mk (some p7) none (.fa 1 t1)),
  .mk true [p1, p7] [p8] true (.mk (some p8) none (.ld t7)),
  .mk true [p6, p8] [p9] true (.mk (some p9) none (.app 2 16 t6 t8)),
  .mk true [p5, p9] [p10] true (.mk (some p10) none (.bld [(.int .i64 (.ofNat 0)), .nils] [(0, 1, t5), (1, 1, t9)])),
  .mk true [p2, p10] [p2] true (.mk none none (.st 2 t2 t10))])
 .ret)))
 [.cell p2 (some 2)]
def ls57 : List Nat := [1, 2]

/- delver/shade.may -/
def f52 : Fd := .mk [p0, p1]
 (.seq (.reg [.mk (some p4) none (.mv (.c (.int .i64 (.ofNat 0))))])
 (.seq (.block 0 (.seq (.reg [.mk (some p6) none (.mv t0),
  .mk (some p7) none (.mv t1),
  .mk (some p8) none (.call p50 [t6, t7]),
  .mk (some p9) none (.not t8),
  .mk (some p5) none (.mv t9)])
 (.cond t5 (.seq (.reg [.mk (some p4) none (.mv (.c (.int .i64 (.ofNat 1))))])
 .ret) (.seq (.reg [.mk (some p11) none (.mv t0),
  .mk (some p12) none (.mv t1),
  .mk (some p13) none (.call p84 [t11, t12]),
  .mk (some p10) none (.mv t13)])
 (.cond t10 (.seq (.reg [.mk (some p4) none (.mv (.c (.int .i64 (.ofNat 11))))])
 .ret) .skip)))))
 (.seq (.reg [.mk (some p4) none (.mv (.c (.int .i64 (.ofNat 0))))])
 .ret)))
 [.t p4]
def ls52 : List Nat := []

/- delver/shade.parts -/
def f53 : Fd := .mk [p0, p1]
 (.seq (.reg [.mk (some p4) none (.mv (.c .nils)),
  .mk (some p5) none (.mv (.c .nils)),
  .mk (some p6) none (.mv (.c .nils))])
 (.seq (.seq (.reg [.mk (some p10) none (.mv t0),
  .mk (some p11) none (.len t10),
  .mk (some p12) none (.mv (.c (.int .i64 (.ofNat 0))))])
 (.block 0 (.loop [p1, p4, p5, p6, p10, p11, p12] (.seq (.reg [.mk (some p13) none (.bin .lt t12 t11)])
 (.seq (.cond t13 .skip (.exit 0))
 (.seq (.block 1 (.seq (.reg [.mk (some p14) none (.ia 3 t10 t12),
  .mk (some p15) none (.lda 3 t14),
  .loc p8 [(.int .i64 (.ofNat 0)), .nils, (.bool false)],
  .mk none none (.st 3 t8 t15)])
 (.seq (.reg [.mk (some p16) none (.fa 0 t8),
  .mk (some p17) none (.lda 2 t16),
  .mk (some p18) none (.mv t1),
  .mk (some p19) none (.call p64 [t17, t18]),
  .mk (some p9) none (.mv t19)])
 (.block 2 (.seq (.reg [.mk (some p25) none (.mv t9),
  .mk (some p26) none (.bin .lt t25 (.c (.int .i64 (.ofNat 0)))),
  .mk (some p24) none (.mv t26)])
 (.cond t24 (.reg [.mk (some p27) none (.mv t4),
  .mk (some p28) none (.lda 3 t8),
  .mk (some p29) none (.bsl 1 3 [(.int .i64 (.ofNat 0)), .nils, (.bool false)] [(0, 3, t28)]),
  .mk (some p30) none (.app 3 40 t27 t29),
  .mk (some p4) none (.mv t30)]) (.seq (.reg [.mk (some p32) none (.mv t9),
  .mk (some p33) none (.bin .gt t32 (.c (.int .i64 (.ofNat 0)))),
  .mk (some p31) none (.mv t33)])
 (.cond t31 (.reg [.mk (some p34) none (.mv t5),
  .mk (some p35) none (.lda 3 t8),
  .mk (some p36) none (.bsl 1 3 [(.int .i64 (.ofNat 0)), .nils, (.bool false)] [(0, 3, t35)]),
  .mk (some p37) none (.app 3 40 t34 t36),
  .mk (some p5) none (.mv t37)]) (.reg [.mk (some p20) none (.mv t6),
  .mk (some p21) none (.lda 3 t8),
  .mk (some p22) none (.bsl 1 3 [(.int .i64 (.ofNat 0)), .nils, (.bool false)] [(0, 3, t21)]),
  .mk (some p23) none (.app 3 40 t20 t22),
  .mk (some p6) none (.mv t23)])))))))))
 (.reg [.mk (some p38) none (.bin .add t12 (.c (.int .i64 (.ofNat 1)))),
  .mk (some p12) none (.mv t38)])))))))
 (.seq (.reg [.mk (some p39) none (.mv t4),
  .mk (some p40) none (.mv t5),
  .mk (some p41) none (.mv t6),
  .mk (some p4) none (.mv t39),
  .mk (some p5) none (.mv t40),
  .mk (some p6) none (.mv t41)])
 .ret)))
 [.t p4, .t p5, .t p6]
def ls53 : List Nat := [8]

/- delver/shade.all -/
def f58 : Fd := .mk [p0, p1, p2]
 (.seq (.reg [.mk (some p4) none (.bx t1),
  .mk (some p5) none (.bx t2),
  .mk (some p6) none (.mv (.c (.bool false)))])
 (.seq (.reg [.mk (some p7) none (.mv t0),
  .mk (some p8) none (.mfn p87 [t4, t5]),
  .mk (some p9) none (.call p82 [t7, t8]),
  .mk (some p10) none (.not t9),
  .mk (some p6) none (.mv t10)])
 .ret))
 [.t p6]
def ls58 : List Nat := []

/- delver/shade.twin -/
def f54 : Fd := .mk [p0]
 (.seq (.reg [.locb p1 t0,
  .loc p2 [(.int .i64 (.ofNat 0)), .nils, (.bool false)]])
 (.seq (.drw [.mk true [p1] [p3] true (.mk (some p3) none (.fa 0 t1)),
  .mk true [p1, p3] [p4] true (.mk (some p4) none (.lda 2 t3)),
  .mk true [p4] [p5] true (.mk (some p5) none (.call p85 [t4])),
  .mk true [p1] [p6] true (.mk (some p6) none (.fa 2 t1)),
  .mk true [p1, p6] [p7] true (.mk (some p7) none (.ld t6)),
  .mk true [p5, p7] [p8] true (.mk (some p8) none (.bld [(.int .i64 (.ofNat 0)), .nils, (.bool false)] [(0, 2, t5), (2, 1, t7)])),
  .mk true [p2, p8] [p2] true (.mk none none (.st 3 t2 t8))])
 .ret))
 [.cell p2 (some 3)]
def ls54 : List Nat := [1, 2]

/- delver/shade.pair -/
def f55 : Fd := .mk [p0, p1, p2]
 (.seq (.reg [.locb p3 t0,
  .locb p4 t1,
  .loc p6 [(.int .i64 (.ofNat 0)), .nils, (.bool false)],
  .mk (some p7) none (.mv (.c (.int .i64 (.ofNat 0))))])
 (.seq (.drw [.mk true [p4] [p14] true (.mk (some p14) none (.fa 0 t4)),
  .mk true [p4, p14] [p15] true (.mk (some p15) none (.lda 2 t14)),
  .mk true [p3] [p16] true (.mk (some p16) none (.fa 0 t3)),
  .mk true [p3, p16] [p17] true (.mk (some p17) none (.lda 2 t16)),
  .mk true [p2] [p18] true (.mk (some p18) none (.mv t2)),
  .mk true [p17, p18] [p19] true (.mk (some p19) none (.call p64 [t17, t18])),
  .mk true [p19] [p20] true (.mk (some p20) none (.neg t19)),
  .mk true [p15, p20] [p21] true (.mk (some p21) none (.call p77 [t15, t20])),
  .mk true [p21] [p13] true (.mk (some p13) none (.mv t21)),
  .mk true [p13] [p22] true (.mk (some p22) none (.ex t13 0)),
  .mk true [p13] [p23] true (.mk (some p23) none (.ex t13 1)),
  .mk true [p8] [p8] true (.loc p8 [(.int .i64 (.ofNat 0)), .nils]),
  .mk true [p8, p22] [p8] true (.mk none none (.st 2 t8 t22)),
  .mk true [p23] [p9] true (.mk (some p9) none (.mv t23))])
 (.seq (.drw [.mk true [p3] [p25] true (.mk (some p25) none (.fa 0 t3)),
  .mk true [p3, p25] [p26] true (.mk (some p26) none (.lda 2 t25)),
  .mk true [p4] [p27] true (.mk (some p27) none (.fa 0 t4)),
  .mk true [p4, p27] [p28] true (.mk (some p28) none (.lda 2 t27)),
  .mk true [p2] [p29] true (.mk (some p29) none (.mv t2)),
  .mk true [p28, p29] [p30] true (.mk (some p30) none (.call p64 [t28, t29])),
  .mk true [p26, p30] [p31] true (.mk (some p31) none (.call p77 [t26, t30])),
  .mk true [p31] [p24] true (.mk (some p24) none (.mv t31)),
  .mk true [p24] [p32] true (.mk (some p32) none (.ex t24 0)),
  .mk true [p24] [p33] true (.mk (some p33) none (.ex t24 1)),
  .mk true [p10] [p10] true (.loc p10 [(.int .i64 (.ofNat 0)), .nils]),
  .mk true [p10, p32] [p10] true (.mk none none (.st 2 t10 t32)),
  .mk true [p33] [p11] true (.mk (some p11) none (.mv t33))])
 (.seq (.seq (.reg [.mk (some p34) none (.mv t9),
  .mk (some p35) none (.bin .ne t34 (.c (.int .i64 (.ofNat 0)))),
  .mk (some p36) none (.mv t35),
  .mk (some p37) (some (p36, false)) (.mv t11),
  .mk (some p38) (some (p36, false)) (.bin .ne t37 (.c (.int .i64 (.ofNat 0)))),
  .mk (some p39) none (.pick t36 (.c (.bool true)) t38)])
 (.cond t39 (.seq (.reg [.mk (some p40) none (.bld [(.int .i64 (.ofNat 0)), .nils, (.bool false)] []),
  .mk none none (.st 3 t6 t40),
  .mk (some p7) none (.mv (.c (.int .i64 (.ofNat 12))))])
 .ret) .skip))
 (.seq (.reg [.mk (some p42) none (.lda 2 t8),
  .mk (some p43) none (.lda 2 t10),
  .mk (some p44) none (.call p86 [t42, t43]),
  .mk (some p41) none (.mv t44),
  .mk (some p45) none (.ex t41 0),
  .mk (some p46) none (.ex t41 1),
  .loc p12 [(.int .i64 (.ofNat 0)), .nils],
  .mk none none (.st 2 t12 t45),
  .mk (some p9) none (.mv t46)])
 (.seq (.reg [.mk (some p47) none (.lda 2 t12),
  .mk (some p48) none (.bld [(.int .i64 (.ofNat 0)), .nils, (.bool false)] [(0, 2, t47)]),
  .mk (some p49) none (.mv t9),
  .mk none none (.st 3 t6 t48),
  .mk (some p7) none (.mv t49)])
 .ret))))))
 [.cell p6 (some 3), .t p7]
def ls55 : List Nat := [3, 4, 6, 8, 10, 12]

/- slices.Concat[[]delver/api.Cons,delver/api.Cons] -/
def f59 : Fd := .mk [p0]
 (.seq (.reg [.mk (some p2) none (.mv (.c .nils))])
 (.seq (.reg [.mk (some p3) none (.mv (.c (.int .i64 (.ofNat 0))))])
 (.seq (.seq (.reg [.mk (some p9) none (.mv t0),
  .mk (some p10) none (.len t9),
  .mk (some p11) none (.mv (.c (.int .i64 (.ofNat 0))))])
 (.block 0 (.loop [p0, p3, p9, p10, p11] (.seq (.reg [.mk (some p12) none (.bin .lt t11 t10)])
 (.seq (.cond t12 .skip (.exit 0))
 (.seq (.block 1 (.seq (.reg [.mk (some p13) none (.ia 1 t9 t11),
  .mk (some p14) none (.ld t13),
  .mk (some p5) none (.mv t14)])
 (.seq (.reg [.mk (some p15) none (.mv t3),
  .mk (some p16) none (.mv t5),
  .mk (some p17) none (.len t16),
  .mk (some p18) none (.bin .add t15 t17),
  .mk (some p3) none (.mv t18)])
 (.seq (.reg [.mk (some p19) none (.mv t3),
  .mk (some p20) none (.bin .lt t19 (.c (.int .i64 (.ofNat 0))))])
 (.cond t20 (.reg [.mk (some p21) none (.bad),
  .mk none none (.bad)]) .skip)))))
 (.reg [.mk (some p22) none (.bin .add t11 (.c (.int .i64 (.ofNat 1)))),
  .mk (some p11) none (.mv t22)])))))))
 (.seq (.reg [.mk (some p23) none (.mv t3),
  .mk (some p24) none (.call p88 [(.c .nils), t23]),
  .mk (some p6) none (.mv t24)])
 (.seq (.seq (.reg [.mk (some p25) none (.mv t0),
  .mk (some p26) none (.len t25),
  .mk (some p27) none (.mv (.c (.int .i64 (.ofNat 0))))])
 (.block 2 (.loop [p6, p25, p26, p27] (.seq (.reg [.mk (some p28) none (.bin .lt t27 t26)])
 (.seq (.cond t28 .skip (.exit 2))
 (.seq (.block 3 (.seq (.reg [.mk (some p29) none (.ia 1 t25 t27),
  .mk (some p30) none (.ld t29),
  .mk (some p8) none (.mv t30)])
 (.reg [.mk (some p31) none (.mv t6),
  .mk (some p32) none (.mv t8),
  .mk (some p33) none (.app 3 40 t31 t32),
  .mk (some p6) none (.mv t33)])))
 (.reg [.mk (some p34) none (.bin .add t27 (.c (.int .i64 (.ofNat 1)))),
  .mk (some p27) none (.mv t34)])))))))
 (.seq (.reg [.mk (some p35) none (.mv t6),
  .mk (some p2) none (.mv t35)])
 .ret))))))
 [.t p2]
def ls59 : List Nat := []

/- delver/shade.Span$1 -/
def f61 : Fd := .mk [p0, p1, p2]
 (.seq (.reg [.locb p3 t0,
  .mk (some p4) none (.mv (.c (.bool false)))])
 (.seq (.reg [.mk (some p5) none (.fa 0 t3),
  .mk (some p6) none (.ld t5),
  .mk (some p7) none (.ld t1),
  .mk (some p8) none (.bin .ne t6 t7),
  .mk (some p9) none (.mv t8),
  .mk (some p10) (some (p9, true)) (.fa 0 t3),
  .mk (some p11) (some (p9, true)) (.ld t10),
  .mk (some p12) (some (p9, true)) (.ld t2),
  .mk (some p13) (some (p9, true)) (.len t12),
  .mk (some p14) (some (p9, true)) (.bin .ge t11 t13),
  .mk (some p15) none (.pick t9 t14 (.c (.bool false))),
  .mk (some p4) none (.mv t15)])
 .ret))
 [.t p4]
def ls61 : List Nat := [3]

/- slices.ContainsFunc[[]delver/api.Mono,delver/api.Mono] -/
def f60 : Fd := .mk [p0, p1]
 (.seq (.reg [.mk (some p4) none (.mv (.c (.bool false)))])
 (.seq (.reg [.mk (some p5) none (.mv t0),
  .mk (some p6) none (.mv t1),
  .mk (some p7) none (.call p89 [t5, t6]),
  .mk (some p8) none (.bin .ge t7 (.c (.int .i64 (.ofNat 0)))),
  .mk (some p4) none (.mv t8)])
 .ret))
 [.t p4]
def ls60 : List Nat := []

/- slices.ContainsFunc[[]int,int] -/
def f62 : Fd := .mk [p0, p1]
 (.seq (.reg [.mk (some p4) none (.mv (.c (.bool false)))])
 (.seq (.reg [.mk (some p5) none (.mv t0),
  .mk (some p6) none (.mv t1),
  .mk (some p7) none (.call p90 [t5, t6]),
  .mk (some p8) none (.bin .ge t7 (.c (.int .i64 (.ofNat 0)))),
  .mk (some p4) none (.mv t8)])
 .ret))
 [.t p4]
def ls62 : List Nat := []

/- delver/shade.Span$2 -/
def f63 : Fd := .mk [p0]
 (.seq (.reg [.mk (some p2) none (.mv (.c (.bool false)))])
 (.seq (.reg [.mk (some p3) none (.mv t0),
  .mk (some p4) none (.bin .lt t3 (.c (.int .i64 (.negSucc 2147483647)))),
  .mk (some p5) none (.mv t4),
  .mk (some p6) (some (p5, false)) (.mv t0),
  .mk (some p7) (some (p5, false)) (.bin .gt t6 (.c (.int .i64 (.ofNat 2147483647)))),
  .mk (some p8) none (.pick t5 (.c (.bool true)) t7),
  .mk (some p2) none (.mv t8)])
 .ret))
 [.t p2]
def ls63 : List Nat := []

/- delver/term.K -/
def f64 : Fd := .mk [p0, p1]
 (.seq (.reg [.locb p2 t0,
  .mk (some p4) none (.mv (.c (.int .i64 (.ofNat 0))))])
 (.seq (.seq (.reg [.mk (some p7) none (.fa 1 t2),
  .mk (some p8) none (.ld t7),
  .mk (some p9) none (.len t8),
  .mk (some p10) none (.mv (.c (.int .i64 (.ofNat 0))))])
 (.block 0 (.loop [p1, p8, p9, p10] (.seq (.reg [.mk (some p11) none (.bin .lt t10 t9)])
 (.seq (.cond t11 .skip (.exit 0))
 (.seq (.block 1 (.seq (.reg [.mk (some p12) none (.ia 2 t8 t10),
  .mk (some p13) none (.lda 2 t12),
  .loc p6 [(.int .i64 (.ofNat 0)), (.int .i64 (.ofNat 0))],
  .mk none none (.st 2 t6 t13)])
 (.seq (.reg [.mk (some p14) none (.fa 0 t6),
  .mk (some p15) none (.ld t14),
  .mk (some p16) none (.mv t1),
  .mk (some p17) none (.bin .eq t15 t16)])
 (.cond t17 (.seq (.reg [.mk (some p18) none (.fa 1 t6),
  .mk (some p19) none (.ld t18),
  .mk (some p4) none (.mv t19)])
 .ret) .skip))))
 (.reg [.mk (some p20) none (.bin .add t10 (.c (.int .i64 (.ofNat 1)))),
  .mk (some p10) none (.mv t20)])))))))
 (.seq (.reg [.mk (some p4) none (.mv (.c (.int .i64 (.ofNat 0))))])
 .ret)))
 [.t p4]
def ls64 : List Nat := [2, 6]

/- delver/shade.down -/
def f65 : Fd := .mk [p0, p1]
 (.seq (.reg [.mk (some p4) none (.mv (.c (.int .i64 (.ofNat 0))))])
 (.seq (.reg [.mk (some p6) none (.mv t0),
  .mk (some p7) none (.mv t1),
  .mk (some p8) none (.bin .quo t6 t7),
  .mk (some p5) none (.mv t8)])
 (.seq (.seq (.reg [.mk (some p9) none (.mv t0),
  .mk (some p10) none (.mv t1),
  .mk (some p11) none (.bin .rem t9 t10),
  .mk (some p12) none (.bin .lt t11 (.c (.int .i64 (.ofNat 0))))])
 (.cond t12 (.reg [.mk (some p13) none (.mv t5),
  .mk (some p14) none (.bin .sub t13 (.c (.int .i64 (.ofNat 1)))),
  .mk (some p5) none (.mv t14)]) .skip))
 (.seq (.reg [.mk (some p15) none (.mv t5),
  .mk (some p4) none (.mv t15)])
 .ret))))
 [.t p4]
def ls65 : List Nat := []

/- delver/shade.right -/
def f50 : Fd := .mk [p0, p1]
 (.seq (.reg [.mk (some p4) none (.mv (.c (.bool false)))])
 (.seq (.reg [.mk (some p5) none (.mv t1),
  .mk (some p6) none (.bin .ge t5 (.c (.int .i64 (.ofNat 0)))),
  .mk (some p7) none (.mv t6),
  .mk (some p8) (some (p7, true)) (.mv t1),
  .mk (some p9) (some (p7, true)) (.bin .lt t8 (.c (.int .i64 (.ofNat 40)))),
  .mk (some p10) none (.pick t7 t9 (.c (.bool false))),
  .mk (some p11) none (.mv t10),
  .mk (some p12) (some (p11, true)) (.mv t0),
  .mk (some p13) (some (p11, true)) (.call p82 [t12, (.c (.fn p83 []))]),
  .mk (some p14) (some (p11, true)) (.not t13),
  .mk (some p15) none (.pick t11 t14 (.c (.bool false))),
  .mk (some p4) none (.mv t15)])
 .ret))
 [.t p4]
def ls50 : List Nat := []

/- delver/shade.one -/
def f51 : Fd := .mk [p0]
 (.seq (.reg [.mk (some p2) none (.mv (.c (.bool false)))])
 (.seq (.reg [.mk (some p3) none (.mv t0),
  .mk (some p4) none (.bin .eq t3 (.c (.int .i64 (.ofNat 1)))),
  .mk (some p5) none (.mv t4),
  .mk (some p6) (some (p5, false)) (.mv t0),
  .mk (some p7) (some (p5, false)) (.bin .eq t6 (.c (.int .i64 (.negSucc 0)))),
  .mk (some p8) none (.pick t5 (.c (.bool true)) t7),
  .mk (some p2) none (.mv t8)])
 .ret))
 [.t p2]
def ls51 : List Nat := []

/- delver/term.Check -/
def f66 : Fd := .mk [p0]
 (.seq (.reg [.locb p1 t0,
  .mk (some p2) none (.mv (.c (.int .i64 (.ofNat 0))))])
 (.seq (.seq (.reg [.mk (some p5) none (.fa 0 t1),
  .mk (some p6) none (.ld t5),
  .mk (some p7) none (.call p91 [t6, (.c (.int .i64 (.ofNat 1099511627776)))]),
  .mk (some p8) none (.not t7),
  .mk (some p9) none (.mv t8),
  .mk (some p10) (some (p9, false)) (.fa 1 t1),
  .mk (some p11) (some (p9, false)) (.ld t10),
  .mk (some p12) (some (p9, false)) (.len t11),
  .mk (some p13) (some (p9, false)) (.bin .gt t12 (.c (.int .i64 (.ofNat 40)))),
  .mk (some p14) none (.pick t9 (.c (.bool true)) t13)])
 (.cond t14 (.seq (.reg [.mk (some p2) none (.mv (.c (.int .i64 (.ofNat 1))))])
 .ret) .skip))
 (.seq (.seq (.reg [.mk (some p15) none (.fa 1 t1),
  .mk (some p16) none (.ld t15),
  .mk (some p17) none (.len t16),
  .mk (some p18) none (.mv (.c (.int .i64 (.ofNat 0))))])
 (.block 0 (.loop [p1, p16, p17, p18] (.seq (.reg [.mk (some p19) none (.bin .lt t18 t17)])
 (.seq (.cond t19 .skip (.exit 0))
 (.seq (.block 1 (.seq (.reg [.mk (some p20) none (.mv t18),
  .mk (some p21) none (.ia 2 t16 t18),
  .mk (some p22) none (.lda 2 t21),
  .loc p4 [(.int .i64 (.ofNat 0)), (.int .i64 (.ofNat 0))],
  .mk (some p3) none (.mv t20),
  .mk none none (.st 2 t4 t22)])
 (.seq (.drw [.mk true [p4] [p23] true (.mk (some p23) none (.fa 0 t4)),
  .mk true [p4, p23] [p24] true (.mk (some p24) none (.ld t23)),
  .mk true [p24] [p25] true (.mk (some p25) none (.bin .lt t24 (.c (.int .i64 (.ofNat 0))))),
  .mk true [p25] [p26] true (.mk (some p26) none (.mv t25)),
  .mk true [p4, p26] [p27] true (.mk (some p27) (some (p26, false)) (.fa 0 t4)),
  .mk true [p4, p27, p26] [p28] true (.mk (some p28) (some (p26, false)) (.ld t27)),
  .mk true [p28, p26] [p29] true (.mk (some p29) (some (p26, false)) (.bin .ge t28 (.c (.int .i64 (.ofNat 40))))),
  .mk true [p26, p29] [p30] true (.mk (some p30) none (.pick t26 (.c (.bool true)) t29)),
  .mk true [p30] [p31] true (.mk (some p31) none (.mv t30)),
  .mk true [p3, p31] [p32] true (.mk (some p32) (some (p31, false)) (.mv t3)),
  .mk true [p32, p31] [p33] true (.mk (some p33) (some (p31, false)) (.bin .gt t32 (.c (.int .i64 (.ofNat 0))))),
  .mk true [p33, p31] [p34] true (.mk (some p34) (some (p31, false)) (.mv t33)),
  .mk true [p4, p34] [p35] true (.mk (some p35) (some (p34, true)) (.fa 0 t4)),
  .mk true [p4, p35, p34] [p36] true (.mk (some p36) (some (p34, true)) (.ld t35)),
  .mk true [p1, p34] [p37] true (.mk (some p37) (some (p34, true)) (.fa 1 t1)),
  .mk true [p1, p37, p34] [p38] true (.mk (some p38) (some (p34, true)) (.ld t37)),
  .mk true [p3, p34] [p39] true (.mk (some p39) (some (p34, true)) (.mv t3)),
  .mk true [p39, p34] [p40] true (.mk (some p40) (some (p34, true)) (.bin .sub t39 (.c (.int .i64 (.ofNat 1))))),
  .mk true [p38, p40, p34] [p41] true (.mk (some p41) (some (p34, true)) (.ia 2 t38 t40)),
  .mk true [p41, p34] [p42] true (.mk (some p42) (some (p34, true)) (.fa 0 t41)),
  .mk true [p42, p34] [p43] true (.mk (some p43) (some (p34, true)) (.ld t42)),
  .mk true [p36, p43, p34] [p44] true (.mk (some p44) (some (p34, true)) (.bin .le t36 t43)),
  .mk true [p34, p44, p31] [p45] true (.mk (some p45) (some (p31, false)) (.pick t34 t44 (.c (.bool false)))),
  .mk true [p31, p45] [p46] true (.mk (some p46) none (.pick t31 (.c (.bool true)) t45)),
  .mk true [p46] [p47] true (.mk (some p47) none (.mv t46)),
  .mk true [p4, p47] [p48] true (.mk (some p48) (some (p47, false)) (.fa 1 t4)),
  .mk true [p4, p48, p47] [p49] true (.mk (some p49) (some (p47, false)) (.ld t48)),
  .mk true [p49, p47] [p50] true (.mk (some p50) (some (p47, false)) (.bin .eq t49 (.c (.int .i64 (.ofNat 0))))),
  .mk true [p47, p50] [p51] true (.mk (some p51) none (.pick t47 (.c (.bool true)) t50)),
  .mk true [p51] [p52] true (.mk (some p52) none (.mv t51)),
  .mk true [p4, p52] [p53] true (.mk (some p53) (some (p52, false)) (.fa 1 t4)),
  .mk true [p4, p53, p52] [p54] true (.mk (some p54) (some (p52, false)) (.ld t53)),
  .mk true [p54, p52] [p55] false (.mk (some p55) (some (p52, false)) (.call p91 [t54, (.c (.int .i64 (.ofNat 1048576)))])),
  .mk true [p55, p52] [p56] true (.mk (some p56) (some (p52, false)) (.not t55)),
  .mk true [p52, p56] [p57] true (.mk (some p57) none (.pick t52 (.c (.bool true)) t56))])
 (.cond t57 (.seq (.reg [.mk (some p2) none (.mv (.c (.int .i64 (.ofNat 1))))])
 .ret) .skip))))
 (.reg [.mk (some p58) none (.bin .add t18 (.c (.int .i64 (.ofNat 1)))),
  .mk (some p18) none (.mv t58)])))))))
 (.seq (.reg [.mk (some p2) none (.mv (.c (.int .i64 (.ofNat 0))))])
 .ret))))
 [.t p2]
def ls66 : List Nat := [1, 4]

/- delver/term.Put -/
def f67 : Fd := .mk [p0, p1, p2]
 (.seq (.reg [.locb p3 t0,
  .mk (some p4) none (.bx t1),
  .locb p5 t2,
  .loc p6 [(.int .i64 (.ofNat 0)), .nils],
  .mk (some p7) none (.mv (.c (.int .i64 (.ofNat 0))))])
 (.seq (.seq (.reg [.mk (some p11) none (.lda 2 t3),
  .mk (some p12) none (.call p66 [t11]),
  .mk (some p13) none (.bin .ne t12 (.c (.int .i64 (.ofNat 0)))),
  .mk (some p14) none (.mv t13),
  .mk (some p15) (some (p14, false)) (.lda 2 t5),
  .mk (some p16) (some (p14, false)) (.call p66 [t15]),
  .mk (some p17) (some (p14, false)) (.bin .ne t16 (.c (.int .i64 (.ofNat 0)))),
  .mk (some p18) none (.pick t14 (.c (.bool true)) t17)])
 (.cond t18 (.seq (.reg [.mk (some p19) none (.bld [(.int .i64 (.ofNat 0)), .nils] []),
  .mk none none (.st 2 t6 t19),
  .mk (some p7) none (.mv (.c (.int .i64 (.ofNat 1))))])
 .ret) .skip))
 (.seq (.drw [.mk true [p5] [p21] true (.mk (some p21) none (.lda 2 t5)),
  .mk true [p3] [p22] true (.mk (some p22) none (.lda 2 t3)),
  .mk true [p4] [p23] true (.mk (some p23) none (.ld t4)),
  .mk true [p22, p23] [p24] true (.mk (some p24) none (.call p64 [t22, t23])),
  .mk true [p21, p24] [p25] true (.mk (some p25) none (.call p77 [t21, t24])),
  .mk true [p25] [p20] true (.mk (some p20) none (.mv t25)),
  .mk true [p20] [p26] true (.mk (some p26) none (.ex t20 0)),
  .mk true [p20] [p27] true (.mk (some p27) none (.ex t20 1)),
  .mk true [p8] [p8] true (.loc p8 [(.int .i64 (.ofNat 0)), .nils]),
  .mk true [p8, p26] [p8] true (.mk none none (.st 2 t8 t26)),
  .mk true [p27] [p9] true (.mk (some p9) none (.mv t27))])
 (.seq (.seq (.reg [.mk (some p28) none (.mv t9),
  .mk (some p29) none (.bin .ne t28 (.c (.int .i64 (.ofNat 0))))])
 (.cond t29 (.seq (.reg [.mk (some p30) none (.bld [(.int .i64 (.ofNat 0)), .nils] []),
  .mk (some p31) none (.mv t9),
  .mk none none (.st 2 t6 t30),
  .mk (some p7) none (.mv t31)])
 .ret) .skip))
 (.seq (.reg [.mk (some p32) none (.lda 2 t3),
  .mk (some p33) none (.call p85 [t32]),
  .loc p10 [(.int .i64 (.ofNat 0)), .nils],
  .mk none none (.st 2 t10 t33)])
 (.seq (.reg [.mk (some p34) none (.fa 1 t10),
  .mk (some p35) none (.ld t34),
  .mk (some p36) none (.mfn p93 [t4]),
  .mk (some p37) none (.call p92 [t35, t36]),
  .mk (some p38) none (.fa 1 t10),
  .mk none none (.st 1 t38 t37)])
 (.seq (.reg [.mk (some p39) none (.lda 2 t10),
  .mk (some p40) none (.lda 2 t8),
  .mk (some p41) none (.call p86 [t39, t40]),
  .mk (some p42) none (.ex t41 0),
  .mk (some p43) none (.ex t41 1),
  .mk none none (.st 2 t6 t42),
  .mk (some p7) none (.mv t43)])
 .ret)))))))
 [.cell p6 (some 2), .t p7]
def ls67 : List Nat := [3, 5, 6, 8, 10]

/- delver/delverkeep.Term -/
def f56 : Fd := .mk [p0, p1]
 (.seq (.reg [.locb p2 t0,
  .locb p3 t1,
  .mk (some p4) none (.mv (.c (.bool false)))])
 (.seq (.seq (.reg [.mk (some p6) none (.fa 0 t2),
  .mk (some p7) none (.ld t6),
  .mk (some p8) none (.fa 0 t3),
  .mk (some p9) none (.ld t8),
  .mk (some p10) none (.bin .ne t7 t9),
  .mk (some p11) none (.mv t10),
  .mk (some p12) (some (p11, false)) (.fa 1 t2),
  .mk (some p13) (some (p11, false)) (.ld t12),
  .mk (some p14) (some (p11, false)) (.len t13),
  .mk (some p15) (some (p11, false)) (.fa 1 t3),
  .mk (some p16) (some (p11, false)) (.ld t15),
  .mk (some p17) (some (p11, false)) (.len t16),
  .mk (some p18) (some (p11, false)) (.bin .ne t14 t17),
  .mk (some p19) none (.pick t11 (.c (.bool true)) t18)])
 (.cond t19 (.seq (.reg [.mk (some p4) none (.mv (.c (.bool false)))])
 .ret) .skip))
 (.seq (.seq (.reg [.mk (some p5) none (.mv (.c (.int .i64 (.ofNat 0))))])
 (.block 0 (.loop [p2, p3, p5] (.seq (.seq (.reg [.mk (some p20) none (.mv t5),
  .mk (some p21) none (.fa 1 t2),
  .mk (some p22) none (.ld t21),
  .mk (some p23) none (.len t22),
  .mk (some p24) none (.bin .lt t20 t23)])
 (.cond t24 .skip (.exit 0)))
 (.seq (.block 1 (.seq (.drw [.mk true [p2] [p27] true (.mk (some p27) none (.fa 1 t2)),
  .mk true [p2, p27] [p28] true (.mk (some p28) none (.ld t27)),
  .mk true [p5] [p29] true (.mk (some p29) none (.mv t5)),
  .mk true [p28, p29] [p30] true (.mk (some p30) none (.ia 2 t28 t29)),
  .mk true [p30] [p31] true (.mk (some p31) none (.lda 2 t30)),
  .mk true [p3] [p32] true (.mk (some p32) none (.fa 1 t3)),
  .mk true [p3, p32] [p33] true (.mk (some p33) none (.ld t32)),
  .mk true [p5] [p34] true (.mk (some p34) none (.mv t5)),
  .mk true [p33, p34] [p35] true (.mk (some p35) none (.ia 2 t33 t34)),
  .mk true [p35] [p36] true (.mk (some p36) none (.lda 2 t35)),
  .mk true [p31, p36] [p37] true (.mk (some p37) none (.aeq [false, false] true t31 t36))])
 (.cond t37 (.seq (.reg [.mk (some p4) none (.mv (.c (.bool false)))])
 .ret) .skip)))
 (.reg [.mk (some p25) none (.mv t5),
  .mk (some p26) none (.bin .add t25 (.c (.int .i64 (.ofNat 1)))),
  .mk (some p5) none (.mv t26)]))))))
 (.seq (.reg [.mk (some p4) none (.mv (.c (.bool true)))])
 .ret))))
 [.t p4]
def ls56 : List Nat := [2, 3]

/- delver/delverref13.mag -/
def f68 : Fd := .mk [p0]
 (.seq (.reg [.mk (some p2) none (.mv (.c (.int .i64 (.ofNat 0))))])
 (.seq (.seq (.reg [.mk (some p3) none (.mv t0),
  .mk (some p4) none (.bin .lt t3 (.c (.int .i64 (.ofNat 0))))])
 (.cond t4 (.seq (.reg [.mk (some p5) none (.mv t0),
  .mk (some p6) none (.bin .sub (.c (.int .i64 (.ofNat 0))) t5),
  .mk (some p2) none (.mv t6)])
 .ret) .skip))
 (.seq (.reg [.mk (some p7) none (.mv t0),
  .mk (some p2) none (.mv t7)])
 .ret)))
 [.t p2]
def ls68 : List Nat := []

/- delver/delverlaw15.Line -/
def f48 : Fd := .mk [p0, p1, p2]
 (.seq (.reg [.loc p6 [(.int .i64 (.ofNat 0)), .nils]])
 (.seq (.reg [.mk (some p7) none (.mv t2),
  .mk (some p8) none (.mv t0),
  .mk (some p9) none (.mv t1),
  .mk (some p10) none (.bld [(.int .i64 (.ofNat 0)), (.int .i64 (.ofNat 0))] [(0, 1, t8), (1, 1, t9)]),
  .mk (some p11) none (.bsl 1 2 [(.int .i64 (.ofNat 0)), (.int .i64 (.ofNat 0))] [(0, 2, t10)]),
  .mk (some p12) none (.bld [(.int .i64 (.ofNat 0)), .nils] [(0, 1, t7), (1, 1, t11)]),
  .mk none none (.st 2 t6 t12)])
 .ret))
 [.cell p6 (some 2)]
def ls48 : List Nat := [6]

/- delver/delverref13.in -/
def f69 : Fd := .mk [p0, p1, p2]
 (.seq (.reg [.mk (some p6) none (.mv (.c (.bool false)))])
 (.seq (.reg [.mk (some p7) none (.mv t0),
  .mk (some p8) none (.mv t1),
  .mk (some p9) none (.bin .ge t7 t8),
  .mk (some p10) none (.mv t9),
  .mk (some p11) (some (p10, true)) (.mv t0),
  .mk (some p12) (some (p10, true)) (.mv t2),
  .mk (some p13) (some (p10, true)) (.bin .le t11 t12),
  .mk (some p14) none (.pick t10 t13 (.c (.bool false))),
  .mk (some p6) none (.mv t14)])
 .ret))
 [.t p6]
def ls69 : List Nat := []

/- delver/delverref13.Put -/
def f70 : Fd := .mk [p0, p1, p2]
 (.seq (.reg [.locb p3 t0,
  .locb p5 t2,
  .loc p6 [(.int .i64 (.ofNat 0)), .nils],
  .mk (some p7) none (.mv (.c (.bool false)))])
 (.seq (.reg [.mk (some p11) none (.lda 2 t3),
  .mk (some p12) none (.mv t1),
  .mk (some p13) none (.call p20 [t11, t12]),
  .mk (some p8) none (.mv t13)])
 (.seq (.reg [.mk (some p15) none (.lda 2 t5),
  .mk (some p16) none (.mv t8),
  .mk (some p17) none (.call p72 [t15, t16]),
  .mk (some p14) none (.mv t17),
  .mk (some p18) none (.ex t14 0),
  .mk (some p19) none (.ex t14 1),
  .loc p9 [(.int .i64 (.ofNat 0)), .nils],
  .mk none none (.st 2 t9 t18),
  .mk (some p10) none (.mv t19)])
 (.seq (.seq (.reg [.mk (some p20) none (.mv t10),
  .mk (some p21) none (.not t20)])
 (.cond t21 (.seq (.reg [.mk (some p22) none (.bld [(.int .i64 (.ofNat 0)), .nils] []),
  .mk none none (.st 2 t6 t22),
  .mk (some p7) none (.mv (.c (.bool false)))])
 .ret) .skip))
 (.seq (.drw [.mk true [p3] [p23] true (.mk (some p23) none (.lda 2 t3)),
  .mk true [p1] [p24] true (.mk (some p24) none (.mv t1)),
  .mk true [p23, p24] [p25] true (.mk (some p25) none (.call p74 [t23, t24])),
  .mk true [p9] [p26] true (.mk (some p26) none (.lda 2 t9)),
  .mk true [p25, p26] [p27] false (.mk (some p27) none (.call p73 [t25, t26])),
  .mk true [p27] [p28] true (.mk (some p28) none (.ex t27 0)),
  .mk true [p27] [p29] true (.mk (some p29) none (.ex t27 1)),
  .mk true [p6, p28] [p6] true (.mk none none (.st 2 t6 t28)),
  .mk true [p29] [p7] true (.mk (some p7) none (.mv t29))])
 .ret)))))
 [.cell p6 (some 2), .t p7]
def ls70 : List Nat := [3, 5, 6, 9]

/- delver/delverref13.K -/
def f20 : Fd := .mk [p0, p1]
 (.seq (.reg [.locb p2 t0,
  .mk (some p4) none (.mv (.c (.int .i64 (.ofNat 0))))])
 (.seq (.seq (.reg [.mk (some p5) none (.mv (.c (.int .i64 (.ofNat 0))))])
 (.block 0 (.loop [p1, p2, p5] (.seq (.seq (.reg [.mk (some p6) none (.mv t5),
  .mk (some p7) none (.fa 1 t2),
  .mk (some p8) none (.ld t7),
  .mk (some p9) none (.len t8),
  .mk (some p10) none (.bin .lt t6 t9)])
 (.cond t10 .skip (.exit 0)))
 (.seq (.block 1 (.seq (.reg [.mk (some p13) none (.fa 1 t2),
  .mk (some p14) none (.ld t13),
  .mk (some p15) none (.mv t5),
  .mk (some p16) none (.ia 2 t14 t15),
  .mk (some p17) none (.fa 0 t16),
  .mk (some p18) none (.ld t17),
  .mk (some p19) none (.mv t1),
  .mk (some p20) none (.bin .eq t18 t19)])
 (.cond t20 (.seq (.reg [.mk (some p21) none (.fa 1 t2),
  .mk (some p22) none (.ld t21),
  .mk (some p23) none (.mv t5),
  .mk (some p24) none (.ia 2 t22 t23),
  .mk (some p25) none (.fa 1 t24),
  .mk (some p26) none (.ld t25),
  .mk (some p4) none (.mv t26)])
 .ret) .skip)))
 (.reg [.mk (some p11) none (.mv t5),
  .mk (some p12) none (.bin .add t11 (.c (.int .i64 (.ofNat 1)))),
  .mk (some p5) none (.mv t12)]))))))
 (.seq (.reg [.mk (some p4) none (.mv (.c (.int .i64 (.ofNat 0))))])
 .ret)))
 [.t p4]
def ls20 : List Nat := [2]

/- delver/shade.Equal -/
def f37 : Fd := .mk [p0, p1]
 (.seq (.reg [.locb p2 t0,
  .loc p4 [(.int .i64 (.ofNat 0)), .nils],
  .mk (some p5) none (.mv (.c (.int .i64 (.ofNat 0))))])
 (.seq (.reg [.mk (some p9) none (.fa 0 t2),
  .mk (some p10) none (.lda 2 t9),
  .mk (some p11) none (.mv t1),
  .mk (some p12) none (.call p64 [t10, t11]),
  .mk (some p6) none (.mv t12)])
 (.seq (.block 0 (.seq (.reg [.mk (some p14) none (.lda 3 t2),
  .mk (some p15) none (.bsl 1 3 [(.int .i64 (.ofNat 0)), .nils, (.bool false)] [(0, 3, t14)]),
  .mk (some p16) none (.mv t1),
  .mk (some p17) none (.call p50 [t15, t16]),
  .mk (some p18) none (.not t17),
  .mk (some p13) none (.mv t18)])
 (.cond t13 (.seq (.reg [.mk (some p19) none (.bld [(.int .i64 (.ofNat 0)), .nils] []),
  .mk none none (.st 2 t4 t19),
  .mk (some p5) none (.mv (.c (.int .i64 (.ofNat 1))))])
 .ret) (.seq (.reg [.mk (some p21) none (.fa 2 t2),
  .mk (some p22) none (.ld t21),
  .mk (some p23) none (.not t22),
  .mk (some p24) none (.mv t23),
  .mk (some p25) (some (p24, false)) (.mv t6),
  .mk (some p26) (some (p24, false)) (.call p51 [t25]),
  .mk (some p27) (some (p24, false)) (.not t26),
  .mk (some p28) none (.pick t24 (.c (.bool true)) t27),
  .mk (some p20) none (.mv t28)])
 (.cond t20 (.seq (.reg [.mk (some p29) none (.bld [(.int .i64 (.ofNat 0)), .nils] []),
  .mk none none (.st 2 t4 t29),
  .mk (some p5) none (.mv (.c (.int .i64 (.ofNat 11))))])
 .ret) .skip)))))
 (.seq (.reg [.mk (some p31) none (.fa 0 t2),
  .mk (some p32) none (.lda 2 t31),
  .mk (some p33) none (.mv t1),
  .mk (some p34) none (.bld [(.int .i64 (.ofNat 0)), .nils] []),
  .mk (some p35) none (.call p67 [t32, t33, t34]),
  .mk (some p30) none (.mv t35),
  .mk (some p36) none (.ex t30 0),
  .mk (some p37) none (.ex t30 1),
  .loc p7 [(.int .i64 (.ofNat 0)), .nils],
  .mk none none (.st 2 t7 t36),
  .mk (some p8) none (.mv t37)])
 (.seq (.reg [.mk (some p38) none (.lda 2 t7),
  .mk (some p39) none (.mv t6),
  .mk (some p40) none (.neg t39),
  .mk (some p41) none (.call p77 [t38, t40]),
  .mk (some p42) none (.ex t41 0),
  .mk (some p43) none (.ex t41 1),
  .mk none none (.st 2 t4 t42),
  .mk (some p5) none (.mv t43)])
 .ret)))))
 [.cell p4 (some 2), .t p5]
def ls37 : List Nat := [2, 4, 7]

/- delver/delverref13.Equal -/
def f71 : Fd := .mk [p0, p1]
 (.seq (.reg [.locb p2 t0,
  .loc p4 [(.int .i64 (.ofNat 0)), .nils]])
 (.seq (.drw [.mk true [p2] [p8] true (.mk (some p8) none (.fa 0 t2)),
  .mk true [p2, p8] [p9] true (.mk (some p9) none (.lda 2 t8)),
  .mk true [p1] [p10] true (.mk (some p10) none (.mv t1)),
  .mk true [p9, p10] [p11] true (.mk (some p11) none (.call p74 [t9, t10])),
  .mk true [p2] [p12] true (.mk (some p12) none (.fa 0 t2)),
  .mk true [p2, p12] [p13] true (.mk (some p13) none (.lda 2 t12)),
  .mk true [p1] [p14] true (.mk (some p14) none (.mv t1)),
  .mk true [p13, p14] [p15] true (.mk (some p15) none (.call p20 [t13, t14])),
  .mk true [p15] [p16] true (.mk (some p16) none (.bin .sub (.c (.int .i64 (.ofNat 0))) t15)),
  .mk true [p11, p16] [p17] true (.mk (some p17) none (.call p72 [t11, t16])),
  .mk true [p17] [p7] true (.mk (some p7) none (.mv t17)),
  .mk true [p7] [p18] true (.mk (some p18) none (.ex t7 0)),
  .mk true [p7] [p19] true (.mk (some p19) none (.ex t7 1)),
  .mk true [p5] [p5] true (.loc p5 [(.int .i64 (.ofNat 0)), .nils]),
  .mk true [p5, p18] [p5] true (.mk none none (.st 2 t5 t18)),
  .mk true [p19] [p6] true (.mk (some p6) none (.mv t19))])
 (.seq (.reg [.mk (some p20) none (.lda 2 t5),
  .mk none none (.st 2 t4 t20)])
 .ret)))
 [.cell p4 (some 2)]
def ls71 : List Nat := [2, 4, 5]

/- delver/delverref13.Scale -/
def f72 : Fd := .mk [p0, p1]
 (.seq (.reg [.locb p2 t0,
  .loc p4 [(.int .i64 (.ofNat 0)), .nils],
  .mk (some p5) none (.mv (.c (.bool false)))])
 (.seq (.seq (.reg [.mk (some p8) none (.mv t1),
  .mk (some p9) none (.bin .eq t8 (.c (.int .i64 (.ofNat 0))))])
 (.cond t9 (.seq (.reg [.mk (some p10) none (.bld [(.int .i64 (.ofNat 0)), .nils] []),
  .mk none none (.st 2 t4 t10),
  .mk (some p5) none (.mv (.c (.bool true)))])
 .ret) .skip))
 (.seq (.seq (.reg [.mk (some p11) none (.fa 0 t2),
  .mk (some p12) none (.ld t11),
  .mk (some p13) none (.mv t1),
  .mk (some p14) none (.call p94 [t12, t13, (.c (.int .i64 (.ofNat 1099511627776)))]),
  .mk (some p15) none (.not t14)])
 (.cond t15 (.seq (.reg [.mk (some p16) none (.bld [(.int .i64 (.ofNat 0)), .nils] []),
  .mk none none (.st 2 t4 t16),
  .mk (some p5) none (.mv (.c (.bool false)))])
 .ret) .skip))
 (.seq (.reg [.mk (some p17) none (.fa 0 t2),
  .mk (some p18) none (.ld t17),
  .mk (some p19) none (.mv t1),
  .mk (some p20) none (.bin .mul t18 t19),
  .mk (some p21) none (.bld [(.int .i64 (.ofNat 0)), .nils] [(0, 1, t20)]),
  .loc p6 [(.int .i64 (.ofNat 0)), .nils],
  .mk none none (.st 2 t6 t21)])
 (.seq (.seq (.reg [.mk (some p7) none (.mv (.c (.int .i64 (.ofNat 0))))])
 (.block 0 (.loop [p1, p2, p4, p6, p7] (.seq (.seq (.reg [.mk (some p22) none (.mv t7),
  .mk (some p23) none (.fa 1 t2),
  .mk (some p24) none (.ld t23),
  .mk (some p25) none (.len t24),
  .mk (some p26) none (.bin .lt t22 t25)])
 (.cond t26 .skip (.exit 0)))
 (.seq (.block 1 (.seq (.seq (.reg [.mk (some p29) none (.fa 1 t2),
  .mk (some p30) none (.ld t29),
  .mk (some p31) none (.mv t7),
  .mk (some p32) none (.ia 2 t30 t31),
  .mk (some p33) none (.fa 1 t32),
  .mk (some p34) none (.ld t33),
  .mk (some p35) none (.mv t1),
  .mk (some p36) none (.call p94 [t34, t35, (.c (.int .i64 (.ofNat 1048576)))]),
  .mk (some p37) none (.not t36)])
 (.cond t37 (.seq (.reg [.mk (some p38) none (.bld [(.int .i64 (.ofNat 0)), .nils] []),
  .mk none none (.st 2 t4 t38),
  .mk (some p5) none (.mv (.c (.bool false)))])
 .ret) .skip))
 (.drw [.mk true [p6] [p39] true (.mk (some p39) none (.fa 1 t6)),
  .mk true [p6, p39] [p40] true (.mk (some p40) none (.ld t39)),
  .mk true [p2] [p41] true (.mk (some p41) none (.fa 1 t2)),
  .mk true [p2, p41] [p42] true (.mk (some p42) none (.ld t41)),
  .mk true [p7] [p43] true (.mk (some p43) none (.mv t7)),
  .mk true [p42, p43] [p44] true (.mk (some p44) none (.ia 2 t42 t43)),
  .mk true [p44] [p45] true (.mk (some p45) none (.fa 0 t44)),
  .mk true [p45] [p46] true (.mk (some p46) none (.ld t45)),
  .mk true [p2] [p47] true (.mk (some p47) none (.fa 1 t2)),
  .mk true [p2, p47] [p48] true (.mk (some p48) none (.ld t47)),
  .mk true [p7] [p49] true (.mk (some p49) none (.mv t7)),
  .mk true [p48, p49] [p50] true (.mk (some p50) none (.ia 2 t48 t49)),
  .mk true [p50] [p51] true (.mk (some p51) none (.fa 1 t50)),
  .mk true [p51] [p52] true (.mk (some p52) none (.ld t51)),
  .mk true [p1] [p53] true (.mk (some p53) none (.mv t1)),
  .mk true [p52, p53] [p54] true (.mk (some p54) none (.bin .mul t52 t53)),
  .mk true [p46, p54] [p55] true (.mk (some p55) none (.bld [(.int .i64 (.ofNat 0)), (.int .i64 (.ofNat 0))] [(0, 1, t46), (1, 1, t54)])),
  .mk true [p55] [p56] true (.mk (some p56) none (.bsl 1 2 [(.int .i64 (.ofNat 0)), (.int .i64 (.ofNat 0))] [(0, 2, t55)])),
  .mk true [p40, p56] [p57] false (.mk (some p57) none (.app 2 16 t40 t56)),
  .mk true [p6] [p58] true (.mk (some p58) none (.fa 1 t6)),
  .mk true [p6, p58, p57] [p6] true (.mk none none (.st 1 t58 t57))])))
 (.reg [.mk (some p27) none (.mv t7),
  .mk (some p28) none (.bin .add t27 (.c (.int .i64 (.ofNat 1)))),
  .mk (some p7) none (.mv t28)]))))))
 (.seq (.reg [.mk (some p59) none (.lda 2 t6),
  .mk none none (.st 2 t4 t59),
  .mk (some p5) none (.mv (.c (.bool true)))])
 .ret))))))
 [.cell p4 (some 2), .t p5]
def ls72 : List Nat := [2, 4, 6]

/- delver/delverref13.Add -/
def f73 : Fd := .mk [p0, p1]
 (.seq (.reg [.locb p2 t0,
  .locb p3 t1,
  .loc p4 [(.int .i64 (.ofNat 0)), .nils],
  .mk (some p5) none (.mv (.c (.bool false)))])
 (.seq (.reg [.mk (some p10) none (.fa 0 t2),
  .mk (some p11) none (.ld t10),
  .mk (some p12) none (.fa 0 t3),
  .mk (some p13) none (.ld t12),
  .mk (some p14) none (.bin .add t11 t13),
  .mk (some p15) none (.bld [(.int .i64 (.ofNat 0)), .nils] [(0, 1, t14)]),
  .loc p6 [(.int .i64 (.ofNat 0)), .nils],
  .mk none none (.st 2 t6 t15)])
 (.seq (.reg [.mk (some p7) none (.mv (.c (.int .i64 (.ofNat 0)))),
  .mk (some p8) none (.mv (.c (.int .i64 (.ofNat 0))))])
 (.seq (.block 0 (.loop [p2, p3, p4, p6, p7, p8] (.seq (.seq (.reg [.mk (some p16) none (.mv t7),
  .mk (some p17) none (.fa 1 t2),
  .mk (some p18) none (.ld t17),
  .mk (some p19) none (.len t18),
  .mk (some p20) none (.bin .lt t16 t19),
  .mk (some p21) none (.mv t20),
  .mk (some p22) (some (p21, false)) (.mv t8),
  .mk (some p23) (some (p21, false)) (.fa 1 t3),
  .mk (some p24) (some (p21, false)) (.ld t23),
  .mk (some p25) (some (p21, false)) (.len t24),
  .mk (some p26) (some (p21, false)) (.bin .lt t22 t25),
  .mk (some p27) none (.pick t21 (.c (.bool true)) t26)])
 (.cond t27 .skip (.exit 0)))
 (.block 1 (.block 2 (.seq (.drw [.mk true [p8] [p61] true (.mk (some p61) none (.mv t8)),
  .mk true [p3] [p62] true (.mk (some p62) none (.fa 1 t3)),
  .mk true [p3, p62] [p63] true (.mk (some p63) none (.ld t62)),
  .mk true [p63] [p64] true (.mk (some p64) none (.len t63)),
  .mk true [p61, p64] [p65] true (.mk (some p65) none (.bin .ge t61 t64)),
  .mk true [p65] [p66] true (.mk (some p66) none (.mv t65)),
  .mk true [p7, p66] [p67] true (.mk (some p67) (some (p66, false)) (.mv t7)),
  .mk true [p2, p66] [p68] true (.mk (some p68) (some (p66, false)) (.fa 1 t2)),
  .mk true [p2, p68, p66] [p69] true (.mk (some p69) (some (p66, false)) (.ld t68)),
  .mk true [p69, p66] [p70] true (.mk (some p70) (some (p66, false)) (.len t69)),
  .mk true [p67, p70, p66] [p71] true (.mk (some p71) (some (p66, false)) (.bin .lt t67 t70)),
  .mk true [p71, p66] [p72] true (.mk (some p72) (some (p66, false)) (.mv t71)),
  .mk true [p2, p72] [p73] true (.mk (some p73) (some (p72, true)) (.fa 1 t2)),
  .mk true [p2, p73, p72] [p74] true (.mk (some p74) (some (p72, true)) (.ld t73)),
  .mk true [p7, p72] [p75] true (.mk (some p75) (some (p72, true)) (.mv t7)),
  .mk true [p74, p75, p72] [p76] true (.mk (some p76) (some (p72, true)) (.ia 2 t74 t75)),
  .mk true [p76, p72] [p77] true (.mk (some p77) (some (p72, true)) (.fa 0 t76)),
  .mk true [p77, p72] [p78] true (.mk (some p78) (some (p72, true)) (.ld t77)),
  .mk true [p3, p72] [p79] true (.mk (some p79) (some (p72, true)) (.fa 1 t3)),
  .mk true [p3, p79, p72] [p80] true (.mk (some p80) (some (p72, true)) (.ld t79)),
  .mk true [p8, p72] [p81] true (.mk (some p81) (some (p72, true)) (.mv t8)),
  .mk true [p80, p81, p72] [p82] true (.mk (some p82) (some (p72, true)) (.ia 2 t80 t81)),
  .mk true [p82, p72] [p83] true (.mk (some p83) (some (p72, true)) (.fa 0 t82)),
  .mk true [p83, p72] [p84] true (.mk (some p84) (some (p72, true)) (.ld t83)),
  .mk true [p78, p84, p72] [p85] true (.mk (some p85) (some (p72, true)) (.bin .lt t78 t84)),
  .mk true [p72, p85, p66] [p86] true (.mk (some p86) (some (p66, false)) (.pick t72 t85 (.c (.bool false)))),
  .mk true [p66, p86] [p87] true (.mk (some p87) none (.pick t66 (.c (.bool true)) t86)),
  .mk true [p87] [p60] true (.mk (some p60) none (.mv t87))])
 (.cond t60 (.seq (.drw [.mk true [p6] [p88] true (.mk (some p88) none (.fa 1 t6)),
  .mk true [p6, p88] [p89] true (.mk (some p89) none (.ld t88)),
  .mk true [p2] [p90] true (.mk (some p90) none (.fa 1 t2)),
  .mk true [p2, p90] [p91] true (.mk (some p91) none (.ld t90)),
  .mk true [p7] [p92] true (.mk (some p92) none (.mv t7)),
  .mk true [p91, p92] [p93] true (.mk (some p93) none (.ia 2 t91 t92)),
  .mk true [p93] [p94] true (.mk (some p94) none (.lda 2 t93)),
  .mk true [p94] [p95] true (.mk (some p95) none (.bsl 1 2 [(.int .i64 (.ofNat 0)), (.int .i64 (.ofNat 0))] [(0, 2, t94)])),
  .mk true [p89, p95] [p96] false (.mk (some p96) none (.app 2 16 t89 t95)),
  .mk true [p6] [p97] true (.mk (some p97) none (.fa 1 t6)),
  .mk true [p6, p97, p96] [p6] true (.mk none none (.st 1 t97 t96))])
 (.reg [.mk (some p98) none (.mv t7),
  .mk (some p99) none (.bin .add t98 (.c (.int .i64 (.ofNat 1)))),
  .mk (some p7) none (.mv t99)])) (.seq (.drw [.mk true [p7] [p101] true (.mk (some p101) none (.mv t7)),
  .mk true [p2] [p102] true (.mk (some p102) none (.fa 1 t2)),
  .mk true [p2, p102] [p103] true (.mk (some p103) none (.ld t102)),
  .mk true [p103] [p104] true (.mk (some p104) none (.len t103)),
  .mk true [p101, p104] [p105] true (.mk (some p105) none (.bin .ge t101 t104)),
  .mk true [p105] [p106] true (.mk (some p106) none (.mv t105)),
  .mk true [p3, p106] [p107] true (.mk (some p107) (some (p106, false)) (.fa 1 t3)),
  .mk true [p3, p107, p106] [p108] true (.mk (some p108) (some (p106, false)) (.ld t107)),
  .mk true [p8, p106] [p109] true (.mk (some p109) (some (p106, false)) (.mv t8)),
  .mk true [p108, p109, p106] [p110] true (.mk (some p110) (some (p106, false)) (.ia 2 t108 t109)),
  .mk true [p110, p106] [p111] true (.mk (some p111) (some (p106, false)) (.fa 0 t110)),
  .mk true [p111, p106] [p112] true (.mk (some p112) (some (p106, false)) (.ld t111)),
  .mk true [p2, p106] [p113] true (.mk (some p113) (some (p106, false)) (.fa 1 t2)),
  .mk true [p2, p113, p106] [p114] true (.mk (some p114) (some (p106, false)) (.ld t113)),
  .mk true [p7, p106] [p115] true (.mk (some p115) (some (p106, false)) (.mv t7)),
  .mk true [p114, p115, p106] [p116] true (.mk (some p116) (some (p106, false)) (.ia 2 t114 t115)),
  .mk true [p116, p106] [p117] true (.mk (some p117) (some (p106, false)) (.fa 0 t116)),
  .mk true [p117, p106] [p118] true (.mk (some p118) (some (p106, false)) (.ld t117)),
  .mk true [p112, p118, p106] [p119] true (.mk (some p119) (some (p106, false)) (.bin .lt t112 t118)),
  .mk true [p106, p119] [p120] true (.mk (some p120) none (.pick t106 (.c (.bool true)) t119)),
  .mk true [p120] [p100] true (.mk (some p100) none (.mv t120))])
 (.cond t100 (.seq (.drw [.mk true [p6] [p121] true (.mk (some p121) none (.fa 1 t6)),
  .mk true [p6, p121] [p122] true (.mk (some p122) none (.ld t121)),
  .mk true [p3] [p123] true (.mk (some p123) none (.fa 1 t3)),
  .mk true [p3, p123] [p124] true (.mk (some p124) none (.ld t123)),
  .mk true [p8] [p125] true (.mk (some p125) none (.mv t8)),
  .mk true [p124, p125] [p126] true (.mk (some p126) none (.ia 2 t124 t125)),
  .mk true [p126] [p127] true (.mk (some p127) none (.lda 2 t126)),
  .mk true [p127] [p128] true (.mk (some p128) none (.bsl 1 2 [(.int .i64 (.ofNat 0)), (.int .i64 (.ofNat 0))] [(0, 2, t127)])),
  .mk true [p122, p128] [p129] false (.mk (some p129) none (.app 2 16 t122 t128)),
  .mk true [p6] [p130] true (.mk (some p130) none (.fa 1 t6)),
  .mk true [p6, p130, p129] [p6] true (.mk none none (.st 1 t130 t129))])
 (.reg [.mk (some p131) none (.mv t8),
  .mk (some p132) none (.bin .add t131 (.c (.int .i64 (.ofNat 1)))),
  .mk (some p8) none (.mv t132)])) (.seq (.seq (.drw [.mk true [p2] [p28] true (.mk (some p28) none (.fa 1 t2)),
  .mk true [p2, p28] [p29] true (.mk (some p29) none (.ld t28)),
  .mk true [p7] [p30] true (.mk (some p30) none (.mv t7)),
  .mk true [p29, p30] [p31] true (.mk (some p31) none (.ia 2 t29 t30)),
  .mk true [p31] [p32] true (.mk (some p32) none (.fa 1 t31)),
  .mk true [p32] [p33] true (.mk (some p33) none (.ld t32)),
  .mk true [p3] [p34] true (.mk (some p34) none (.fa 1 t3)),
  .mk true [p3, p34] [p35] true (.mk (some p35) none (.ld t34)),
  .mk true [p8] [p36] true (.mk (some p36) none (.mv t8)),
  .mk true [p35, p36] [p37] true (.mk (some p37) none (.ia 2 t35 t36)),
  .mk true [p37] [p38] true (.mk (some p38) none (.fa 1 t37)),
  .mk true [p38] [p39] true (.mk (some p39) none (.ld t38)),
  .mk true [p33, p39] [p40] true (.mk (some p40) none (.bin .add t33 t39)),
  .mk true [p40] [p9] true (.mk (some p9) none (.mv t40))])
 (.seq (.reg [.mk (some p41) none (.mv t9),
  .mk (some p42) none (.bin .ne t41 (.c (.int .i64 (.ofNat 0))))])
 (.cond t42 (.drw [.mk true [p6] [p43] true (.mk (some p43) none (.fa 1 t6)),
  .mk true [p6, p43] [p44] true (.mk (some p44) none (.ld t43)),
  .mk true [p2] [p45] true (.mk (some p45) none (.fa 1 t2)),
  .mk true [p2, p45] [p46] true (.mk (some p46) none (.ld t45)),
  .mk true [p7] [p47] true (.mk (some p47) none (.mv t7)),
  .mk true [p46, p47] [p48] true (.mk (some p48) none (.ia 2 t46 t47)),
  .mk true [p48] [p49] true (.mk (some p49) none (.fa 0 t48)),
  .mk true [p49] [p50] true (.mk (some p50) none (.ld t49)),
  .mk true [p9] [p51] true (.mk (some p51) none (.mv t9)),
  .mk true [p50, p51] [p52] true (.mk (some p52) none (.bld [(.int .i64 (.ofNat 0)), (.int .i64 (.ofNat 0))] [(0, 1, t50), (1, 1, t51)])),
  .mk true [p52] [p53] true (.mk (some p53) none (.bsl 1 2 [(.int .i64 (.ofNat 0)), (.int .i64 (.ofNat 0))] [(0, 2, t52)])),
  .mk true [p44, p53] [p54] false (.mk (some p54) none (.app 2 16 t44 t53)),
  .mk true [p6] [p55] true (.mk (some p55) none (.fa 1 t6)),
  .mk true [p6, p55, p54] [p6] true (.mk none none (.st 1 t55 t54))]) .skip)))
 (.reg [.mk (some p56) none (.mv t7),
  .mk (some p57) none (.bin .add t56 (.c (.int .i64 (.ofNat 1)))),
  .mk (some p58) none (.mv t8),
  .mk (some p59) none (.bin .add t58 (.c (.int .i64 (.ofNat 1)))),
  .mk (some p7) none (.mv t57),
  .mk (some p8) none (.mv t59)])))))))))))
 (.seq (.seq (.reg [.mk (some p133) none (.lda 2 t6),
  .mk (some p134) none (.call p28 [t133]),
  .mk (some p135) none (.not t134)])
 (.cond t135 (.seq (.reg [.mk (some p136) none (.bld [(.int .i64 (.ofNat 0)), .nils] []),
  .mk none none (.st 2 t4 t136),
  .mk (some p5) none (.mv (.c (.bool false)))])
 .ret) .skip))
 (.seq (.reg [.mk (some p137) none (.lda 2 t6),
  .mk none none (.st 2 t4 t137),
  .mk (some p5) none (.mv (.c (.bool true)))])
 .ret))))))
 [.cell p4 (some 2), .t p5]
def ls73 : List Nat := [2, 3, 4, 6]

/- delver/delverref13.Told -/
def f38 : Fd := .mk [p0, p1]
 (.seq (.reg [.locb p2 t0,
  .mk (some p4) none (.mv (.c (.int .i64 (.ofNat 0))))])
 (.seq (.seq (.reg [.mk (some p7) none (.lda 2 t2),
  .mk (some p8) none (.call p28 [t7]),
  .mk (some p9) none (.not t8)])
 (.cond t9 (.seq (.reg [.mk (some p4) none (.mv (.c (.int .i64 (.ofNat 1))))])
 .ret) .skip))
 (.seq (.seq (.reg [.mk (some p5) none (.mv (.c (.int .i64 (.ofNat 0))))])
 (.block 0 (.loop [p1, p2, p5] (.seq (.seq (.reg [.mk (some p10) none (.mv t5),
  .mk (some p11) none (.fa 1 t2),
  .mk (some p12) none (.ld t11),
  .mk (some p13) none (.len t12),
  .mk (some p14) none (.bin .lt t10 t13)])
 (.cond t14 .skip (.exit 0)))
 (.seq (.block 1 (.seq (.reg [.mk (some p17) none (.fa 1 t2),
  .mk (some p18) none (.ld t17),
  .mk (some p19) none (.mv t5),
  .mk (some p20) none (.ia 2 t18 t19),
  .mk (some p21) none (.fa 0 t20),
  .mk (some p22) none (.ld t21),
  .mk (some p23) none (.mv t1),
  .mk (some p24) none (.len t23),
  .mk (some p25) none (.bin .ge t22 t24)])
 (.cond t25 (.seq (.reg [.mk (some p4) none (.mv (.c (.int .i64 (.ofNat 5))))])
 .ret) .skip)))
 (.reg [.mk (some p15) none (.mv t5),
  .mk (some p16) none (.bin .add t15 (.c (.int .i64 (.ofNat 1)))),
  .mk (some p5) none (.mv t16)]))))))
 (.seq (.seq (.reg [.mk (some p6) none (.mv (.c (.int .i64 (.ofNat 0))))])
 (.block 2 (.loop [p1, p6] (.seq (.seq (.reg [.mk (some p26) none (.mv t6),
  .mk (some p27) none (.mv t1),
  .mk (some p28) none (.len t27),
  .mk (some p29) none (.bin .lt t26 t28)])
 (.cond t29 .skip (.exit 2)))
 (.seq (.block 3 (.seq (.reg [.mk (some p32) none (.mv t1),
  .mk (some p33) none (.mv t6),
  .mk (some p34) none (.ia 1 t32 t33),
  .mk (some p35) none (.ld t34),
  .mk (some p36) none (.call p69 [t35, (.c (.int .i64 (.negSucc 2147483647))), (.c (.int .i64 (.ofNat 2147483647)))]),
  .mk (some p37) none (.not t36)])
 (.cond t37 (.seq (.reg [.mk (some p4) none (.mv (.c (.int .i64 (.ofNat 1))))])
 .ret) .skip)))
 (.reg [.mk (some p30) none (.mv t6),
  .mk (some p31) none (.bin .add t30 (.c (.int .i64 (.ofNat 1)))),
  .mk (some p6) none (.mv t31)]))))))
 (.seq (.reg [.mk (some p4) none (.mv (.c (.int .i64 (.ofNat 0))))])
 .ret)))))
 [.t p4]
def ls38 : List Nat := [2]

/- delver/delverref13.without -/
def f74 : Fd := .mk [p0, p1]
 (.seq (.reg [.locb p2 t0,
  .loc p4 [(.int .i64 (.ofNat 0)), .nils]])
 (.seq (.reg [.mk (some p7) none (.fa 0 t2),
  .mk (some p8) none (.ld t7),
  .mk (some p9) none (.bld [(.int .i64 (.ofNat 0)), .nils] [(0, 1, t8)]),
  .loc p5 [(.int .i64 (.ofNat 0)), .nils],
  .mk none none (.st 2 t5 t9)])
 (.seq (.seq (.reg [.mk (some p6) none (.mv (.c (.int .i64 (.ofNat 0))))])
 (.block 0 (.loop [p1, p2, p4, p5, p6] (.seq (.seq (.reg [.mk (some p10) none (.mv t6),
  .mk (some p11) none (.fa 1 t2),
  .mk (some p12) none (.ld t11),
  .mk (some p13) none (.len t12),
  .mk (some p14) none (.bin .lt t10 t13)])
 (.cond t14 .skip (.exit 0)))
 (.seq (.block 1 (.seq (.reg [.mk (some p17) none (.fa 1 t2),
  .mk (some p18) none (.ld t17),
  .mk (some p19) none (.mv t6),
  .mk (some p20) none (.ia 2 t18 t19),
  .mk (some p21) none (.fa 0 t20),
  .mk (some p22) none (.ld t21),
  .mk (some p23) none (.mv t1),
  .mk (some p24) none (.bin .ne t22 t23)])
 (.cond t24 (.drw [.mk true [p5] [p25] true (.mk (some p25) none (.fa 1 t5)),
  .mk true [p5, p25] [p26] true (.mk (some p26) none (.ld t25)),
  .mk true [p2] [p27] true (.mk (some p27) none (.fa 1 t2)),
  .mk true [p2, p27] [p28] true (.mk (some p28) none (.ld t27)),
  .mk true [p6] [p29] true (.mk (some p29) none (.mv t6)),
  .mk true [p28, p29] [p30] true (.mk (some p30) none (.ia 2 t28 t29)),
  .mk true [p30] [p31] true (.mk (some p31) none (.lda 2 t30)),
  .mk true [p31] [p32] true (.mk (some p32) none (.bsl 1 2 [(.int .i64 (.ofNat 0)), (.int .i64 (.ofNat 0))] [(0, 2, t31)])),
  .mk true [p26, p32] [p33] false (.mk (some p33) none (.app 2 16 t26 t32)),
  .mk true [p5] [p34] true (.mk (some p34) none (.fa 1 t5)),
  .mk true [p5, p34, p33] [p5] true (.mk none none (.st 1 t34 t33))]) .skip)))
 (.reg [.mk (some p15) none (.mv t6),
  .mk (some p16) none (.bin .add t15 (.c (.int .i64 (.ofNat 1)))),
  .mk (some p6) none (.mv t16)]))))))
 (.seq (.reg [.mk (some p35) none (.lda 2 t5),
  .mk none none (.st 2 t4 t35)])
 .ret))))
 [.cell p4 (some 2)]
def ls74 : List Nat := [2, 4, 5]

/- delver/delverref13.Value -/
def f40 : Fd := .mk [p0, p1]
 (.seq (.reg [.locb p2 t0,
  .mk (some p4) none (.mv (.c (.int .i64 (.ofNat 0))))])
 (.seq (.reg [.mk (some p7) none (.fa 0 t2),
  .mk (some p8) none (.ld t7),
  .mk (some p5) none (.mv t8)])
 (.seq (.seq (.reg [.mk (some p6) none (.mv (.c (.int .i64 (.ofNat 0))))])
 (.block 0 (.loop [p1, p2, p5, p6] (.seq (.seq (.reg [.mk (some p9) none (.mv t6),
  .mk (some p10) none (.fa 1 t2),
  .mk (some p11) none (.ld t10),
  .mk (some p12) none (.len t11),
  .mk (some p13) none (.bin .lt t9 t12)])
 (.cond t13 .skip (.exit 0)))
 (.seq (.block 1 (.drw [.mk true [p5] [p16] true (.mk (some p16) none (.mv t5)),
  .mk true [p2] [p17] true (.mk (some p17) none (.fa 1 t2)),
  .mk true [p2, p17] [p18] true (.mk (some p18) none (.ld t17)),
  .mk true [p6] [p19] true (.mk (some p19) none (.mv t6)),
  .mk true [p18, p19] [p20] true (.mk (some p20) none (.ia 2 t18 t19)),
  .mk true [p20] [p21] true (.mk (some p21) none (.fa 1 t20)),
  .mk true [p21] [p22] true (.mk (some p22) none (.ld t21)),
  .mk true [p1] [p23] true (.mk (some p23) none (.mv t1)),
  .mk true [p2] [p24] true (.mk (some p24) none (.fa 1 t2)),
  .mk true [p2, p24] [p25] true (.mk (some p25) none (.ld t24)),
  .mk true [p6] [p26] true (.mk (some p26) none (.mv t6)),
  .mk true [p25, p26] [p27] true (.mk (some p27) none (.ia 2 t25 t26)),
  .mk true [p27] [p28] true (.mk (some p28) none (.fa 0 t27)),
  .mk true [p28] [p29] true (.mk (some p29) none (.ld t28)),
  .mk true [p23, p29] [p30] true (.mk (some p30) none (.ia 1 t23 t29)),
  .mk true [p30] [p31] true (.mk (some p31) none (.ld t30)),
  .mk true [p22, p31] [p32] true (.mk (some p32) none (.bin .mul t22 t31)),
  .mk true [p16, p32] [p33] true (.mk (some p33) none (.bin .add t16 t32)),
  .mk true [p33] [p5] true (.mk (some p5) none (.mv t33))]))
 (.reg [.mk (some p14) none (.mv t6),
  .mk (some p15) none (.bin .add t14 (.c (.int .i64 (.ofNat 1)))),
  .mk (some p6) none (.mv t15)]))))))
 (.seq (.reg [.mk (some p34) none (.mv t5),
  .mk (some p4) none (.mv t34)])
 .ret))))
 [.t p4]
def ls40 : List Nat := [2]

/- delver/delverref13.down -/
def f75 : Fd := .mk [p0, p1]
 (.seq (.reg [.mk (some p4) none (.mv (.c (.int .i64 (.ofNat 0))))])
 (.seq (.reg [.mk (some p5) none (.mv t0),
  .mk (some p6) none (.bin .sub (.c (.int .i64 (.ofNat 0))) t5),
  .mk (some p7) none (.mv t1),
  .mk (some p8) none (.call p76 [t6, t7]),
  .mk (some p9) none (.bin .sub (.c (.int .i64 (.ofNat 0))) t8),
  .mk (some p4) none (.mv t9)])
 .ret))
 [.t p4]
def ls75 : List Nat := []

/- delver/delverref13.up -/
def f76 : Fd := .mk [p0, p1]
 (.seq (.reg [.mk (some p4) none (.mv (.c (.int .i64 (.ofNat 0))))])
 (.seq (.reg [.mk (some p6) none (.mv t0),
  .mk (some p7) none (.mv t1),
  .mk (some p8) none (.bin .quo t6 t7),
  .mk (some p5) none (.mv t8)])
 (.seq (.seq (.reg [.mk (some p9) none (.mv t0),
  .mk (some p10) none (.mv t1),
  .mk (some p11) none (.bin .rem t9 t10),
  .mk (some p12) none (.bin .gt t11 (.c (.int .i64 (.ofNat 0))))])
 (.cond t12 (.reg [.mk (some p13) none (.mv t5),
  .mk (some p14) none (.bin .add t13 (.c (.int .i64 (.ofNat 1)))),
  .mk (some p5) none (.mv t14)]) .skip))
 (.seq (.reg [.mk (some p15) none (.mv t5),
  .mk (some p4) none (.mv t15)])
 .ret))))
 [.t p4]
def ls76 : List Nat := []

/- delver/shade.has -/
def f84 : Fd := .mk [p0, p1]
 (.seq (.reg [.mk (some p3) none (.bx t1),
  .mk (some p4) none (.mv (.c (.bool false)))])
 (.seq (.reg [.mk (some p5) none (.mv t0),
  .mk (some p6) none (.mfn p107 [t3]),
  .mk (some p7) none (.call p82 [t5, t6]),
  .mk (some p4) none (.mv t7)])
 .ret))
 [.t p4]
def ls84 : List Nat := []

/- delver/shade.all$1 -/
def f87 : Fd := .mk [p0, p1, p2]
 (.seq (.reg [.locb p3 t0,
  .mk (some p4) none (.mv (.c (.bool false)))])
 (.seq (.drw [.mk true [p3] [p5] true (.mk (some p5) none (.fa 0 t3)),
  .mk true [p3, p5] [p6] true (.mk (some p6) none (.lda 2 t5)),
  .mk true [p1] [p7] true (.mk (some p7) none (.ld t1)),
  .mk true [p6, p7] [p8] true (.mk (some p8) none (.call p64 [t6, t7])),
  .mk true [p2] [p9] true (.mk (some p9) none (.ld t2)),
  .mk true [p8, p9] [p10] true (.mk (some p10) none (.bin .ne t8 t9)),
  .mk true [p10] [p4] true (.mk (some p4) none (.mv t10))])
 .ret))
 [.t p4]
def ls87 : List Nat := [3]

/- slices.ContainsFunc[[]delver/api.Cons,delver/api.Cons] -/
def f82 : Fd := .mk [p0, p1]
 (.seq (.reg [.mk (some p4) none (.mv (.c (.bool false)))])
 (.seq (.reg [.mk (some p5) none (.mv t0),
  .mk (some p6) none (.mv t1),
  .mk (some p7) none (.call p106 [t5, t6]),
  .mk (some p8) none (.bin .ge t7 (.c (.int .i64 (.ofNat 0)))),
  .mk (some p4) none (.mv t8)])
 .ret))
 [.t p4]
def ls82 : List Nat := []

/- delver/term.Twin -/
def f85 : Fd := .mk [p0]
 (.seq (.reg [.locb p1 t0,
  .loc p2 [(.int .i64 (.ofNat 0)), .nils]])
 (.seq (.drw [.mk true [p1] [p3] true (.mk (some p3) none (.fa 0 t1)),
  .mk true [p1, p3] [p4] true (.mk (some p4) none (.ld t3)),
  .mk true [p1] [p5] true (.mk (some p5) none (.fa 1 t1)),
  .mk true [p1, p5] [p6] true (.mk (some p6) none (.ld t5)),
  .mk true [p6] [p7] true (.mk (some p7) none (.call p108 [t6])),
  .mk true [p4, p7] [p8] true (.mk (some p8) none (.bld [(.int .i64 (.ofNat 0)), .nils] [(0, 1, t4), (1, 1, t7)])),
  .mk true [p2, p8] [p2] true (.mk none none (.st 2 t2 t8))])
 .ret))
 [.cell p2 (some 2)]
def ls85 : List Nat := [1, 2]

/- delver/term.Scale -/
def f77 : Fd := .mk [p0, p1]
 (.seq (.reg [.locb p2 t0,
  .loc p4 [(.int .i64 (.ofNat 0)), .nils],
  .mk (some p5) none (.mv (.c (.int .i64 (.ofNat 0))))])
 (.seq (.seq (.reg [.mk (some p13) none (.lda 2 t2),
  .mk (some p14) none (.call p66 [t13]),
  .mk (some p15) none (.bin .ne t14 (.c (.int .i64 (.ofNat 0))))])
 (.cond t15 (.seq (.reg [.mk (some p16) none (.bld [(.int .i64 (.ofNat 0)), .nils] []),
  .mk none none (.st 2 t4 t16),
  .mk (some p5) none (.mv (.c (.int .i64 (.ofNat 1))))])
 .ret) .skip))
 (.seq (.reg [.mk (some p18) none (.fa 0 t2),
  .mk (some p19) none (.ld t18),
  .mk (some p20) none (.mv t1),
  .mk (some p21) none (.call p95 [t19, t20, (.c (.int .i64 (.ofNat 1099511627776)))]),
  .mk (some p17) none (.mv t21),
  .mk (some p22) none (.ex t17 0),
  .mk (some p23) none (.ex t17 1),
  .mk (some p6) none (.mv t22),
  .mk (some p7) none (.mv t23)])
 (.seq (.reg [.mk (some p24) none (.mv t6),
  .mk (some p25) none (.bld [(.int .i64 (.ofNat 0)), .nils] [(0, 1, t24)]),
  .loc p8 [(.int .i64 (.ofNat 0)), .nils],
  .mk none none (.st 2 t8 t25)])
 (.seq (.seq (.reg [.mk (some p26) none (.fa 1 t2),
  .mk (some p27) none (.ld t26),
  .mk (some p28) none (.len t27),
  .mk (some p29) none (.mv (.c (.int .i64 (.ofNat 0))))])
 (.block 0 (.loop [p1, p4, p7, p8, p27, p28, p29] (.seq (.reg [.mk (some p30) none (.bin .lt t29 t28)])
 (.seq (.cond t30 .skip (.exit 0))
 (.seq (.block 1 (.seq (.reg [.mk (some p31) none (.ia 2 t27 t29),
  .mk (some p32) none (.lda 2 t31),
  .loc p10 [(.int .i64 (.ofNat 0)), (.int .i64 (.ofNat 0))],
  .mk none none (.st 2 t10 t32)])
 (.seq (.reg [.mk (some p34) none (.fa 1 t10),
  .mk (some p35) none (.ld t34),
  .mk (some p36) none (.mv t1),
  .mk (some p37) none (.call p95 [t35, t36, (.c (.int .i64 (.ofNat 1048576)))]),
  .mk (some p33) none (.mv t37),
  .mk (some p38) none (.ex t33 0),
  .mk (some p39) none (.ex t33 1),
  .mk (some p11) none (.mv t38),
  .mk (some p12) none (.mv t39)])
 (.seq (.reg [.mk (some p40) none (.mv t7),
  .mk (some p41) none (.mv t40),
  .mk (some p42) (some (p41, true)) (.mv t12),
  .mk (some p43) none (.pick t41 t42 (.c (.bool false))),
  .mk (some p7) none (.mv t43)])
 (.seq (.reg [.mk (some p44) none (.mv t11),
  .mk (some p45) none (.bin .ne t44 (.c (.int .i64 (.ofNat 0))))])
 (.cond t45 (.reg [.mk (some p46) none (.fa 1 t8),
  .mk (some p47) none (.ld t46),
  .mk (some p48) none (.fa 0 t10),
  .mk (some p49) none (.ld t48),
  .mk (some p50) none (.mv t11),
  .mk (some p51) none (.bld [(.int .i64 (.ofNat 0)), (.int .i64 (.ofNat 0))] [(0, 1, t49), (1, 1, t50)]),
  .mk (some p52) none (.bsl 1 2 [(.int .i64 (.ofNat 0)), (.int .i64 (.ofNat 0))] [(0, 2, t51)]),
  .mk (some p53) none (.app 2 16 t47 t52),
  .mk (some p54) none (.fa 1 t8),
  .mk none none (.st 1 t54 t53)]) .skip))))))
 (.reg [.mk (some p55) none (.bin .add t29 (.c (.int .i64 (.ofNat 1)))),
  .mk (some p29) none (.mv t55)])))))))
 (.seq (.seq (.reg [.mk (some p56) none (.mv t7),
  .mk (some p57) none (.not t56)])
 (.cond t57 (.seq (.reg [.mk (some p58) none (.bld [(.int .i64 (.ofNat 0)), .nils] []),
  .mk none none (.st 2 t4 t58),
  .mk (some p5) none (.mv (.c (.int .i64 (.ofNat 12))))])
 .ret) .skip))
 (.seq (.reg [.mk (some p59) none (.lda 2 t8),
  .mk none none (.st 2 t4 t59),
  .mk (some p5) none (.mv (.c (.int .i64 (.ofNat 0))))])
 .ret)))))))
 [.cell p4 (some 2), .t p5]
def ls77 : List Nat := [2, 4, 8, 10]

/- delver/term.Add -/
def f86 : Fd := .mk [p0, p1]
 (.seq (.reg [.locb p2 t0,
  .locb p3 t1,
  .loc p4 [(.int .i64 (.ofNat 0)), .nils],
  .mk (some p5) none (.mv (.c (.int .i64 (.ofNat 0))))])
 (.seq (.seq (.reg [.mk (some p6) none (.lda 2 t2),
  .mk (some p7) none (.call p66 [t6]),
  .mk (some p8) none (.bin .ne t7 (.c (.int .i64 (.ofNat 0)))),
  .mk (some p9) none (.mv t8),
  .mk (some p10) (some (p9, false)) (.lda 2 t3),
  .mk (some p11) (some (p9, false)) (.call p66 [t10]),
  .mk (some p12) (some (p9, false)) (.bin .ne t11 (.c (.int .i64 (.ofNat 0)))),
  .mk (some p13) none (.pick t9 (.c (.bool true)) t12)])
 (.cond t13 (.seq (.reg [.mk (some p14) none (.bld [(.int .i64 (.ofNat 0)), .nils] []),
  .mk none none (.st 2 t4 t14),
  .mk (some p5) none (.mv (.c (.int .i64 (.ofNat 1))))])
 .ret) .skip))
 (.seq (.reg [.mk (some p15) none (.lda 2 t2),
  .mk (some p16) none (.lda 2 t3),
  .mk (some p17) none (.call p110 [t15, t16]),
  .mk (some p18) none (.call p109 [t17]),
  .mk (some p19) none (.ex t18 0),
  .mk (some p20) none (.ex t18 1),
  .mk none none (.st 2 t4 t19),
  .mk (some p5) none (.mv t20)])
 .ret)))
 [.cell p4 (some 2), .t p5]
def ls86 : List Nat := [2, 3, 4]

/- slices.Grow[[]delver/api.Cons,delver/api.Cons] -/
def f88 : Fd := .mk [p0, p1]
 (.seq (.reg [.mk (some p4) none (.mv (.c .nils))])
 (.seq (.seq (.reg [.mk (some p5) none (.mv t1),
  .mk (some p6) none (.bin .lt t5 (.c (.int .i64 (.ofNat 0))))])
 (.cond t6 (.reg [.mk (some p7) none (.bad),
  .mk none none (.bad)]) .skip))
 (.seq (.seq (.reg [.mk (some p8) none (.mv t1),
  .mk (some p9) none (.mv t0),
  .mk (some p10) none (.cap t9),
  .mk (some p11) none (.mv t0),
  .mk (some p12) none (.len t11),
  .mk (some p13) none (.bin .sub t10 t12),
  .mk (some p14) none (.bin .sub t8 t13),
  .mk (some p1) none (.mv t14)])
 (.seq (.reg [.mk (some p15) none (.mv t1),
  .mk (some p16) none (.bin .gt t15 (.c (.int .i64 (.ofNat 0))))])
 (.cond t16 (.reg [.mk (some p17) none (.mv t0),
  .mk (some p18) none (.mv t0),
  .mk (some p19) none (.cap t18),
  .mk (some p20) none (.sla 3 t17 none (some t19) none),
  .mk (some p21) none (.mv t1),
  .mk (some p22) none (.apz 3 40 [(.int .i64 (.ofNat 0)), .nils, (.bool false)] t20 t21),
  .mk (some p23) none (.mv t0),
  .mk (some p24) none (.len t23),
  .mk (some p25) none (.sla 3 t22 none (some t24) none),
  .mk (some p0) none (.mv t25)]) .skip)))
 (.seq (.reg [.mk (some p26) none (.mv t0),
  .mk (some p4) none (.mv t26)])
 .ret))))
 [.t p4]
def ls88 : List Nat := []

/- slices.IndexFunc[[]delver/api.Mono,delver/api.Mono] -/
def f89 : Fd := .mk [p0, p1]
 (.seq (.reg [.mk (some p4) none (.mv (.c (.int .i64 (.ofNat 0))))])
 (.seq (.seq (.reg [.mk (some p6) none (.mv t0),
  .mk (some p7) none (.len t6),
  .mk (some p8) none (.mv (.c (.int .i64 (.ofNat 0))))])
 (.block 0 (.loop [p0, p1, p7, p8] (.seq (.reg [.mk (some p9) none (.bin .lt t8 t7)])
 (.seq (.cond t9 .skip (.exit 0))
 (.seq (.block 1 (.seq (.reg [.mk (some p10) none (.mv t8),
  .mk (some p5) none (.mv t10)])
 (.seq (.reg [.mk (some p11) none (.mv t1),
  .mk (some p12) none (.mv t0),
  .mk (some p13) none (.mv t5),
  .mk (some p14) none (.ia 2 t12 t13),
  .mk (some p15) none (.lda 2 t14),
  .mk (some p16) none (.callv t11 [t15])])
 (.cond t16 (.seq (.reg [.mk (some p17) none (.mv t5),
  .mk (some p4) none (.mv t17)])
 .ret) .skip))))
 (.reg [.mk (some p18) none (.bin .add t8 (.c (.int .i64 (.ofNat 1)))),
  .mk (some p8) none (.mv t18)])))))))
 (.seq (.reg [.mk (some p4) none (.mv (.c (.int .i64 (.negSucc 0))))])
 .ret)))
 [.t p4]
def ls89 : List Nat := []

/- slices.IndexFunc[[]int,int] -/
def f90 : Fd := .mk [p0, p1]
 (.seq (.reg [.mk (some p4) none (.mv (.c (.int .i64 (.ofNat 0))))])
 (.seq (.seq (.reg [.mk (some p6) none (.mv t0),
  .mk (some p7) none (.len t6),
  .mk (some p8) none (.mv (.c (.int .i64 (.ofNat 0))))])
 (.block 0 (.loop [p0, p1, p7, p8] (.seq (.reg [.mk (some p9) none (.bin .lt t8 t7)])
 (.seq (.cond t9 .skip (.exit 0))
 (.seq (.block 1 (.seq (.reg [.mk (some p10) none (.mv t8),
  .mk (some p5) none (.mv t10)])
 (.seq (.reg [.mk (some p11) none (.mv t1),
  .mk (some p12) none (.mv t0),
  .mk (some p13) none (.mv t5),
  .mk (some p14) none (.ia 1 t12 t13),
  .mk (some p15) none (.ld t14),
  .mk (some p16) none (.callv t11 [t15])])
 (.cond t16 (.seq (.reg [.mk (some p17) none (.mv t5),
  .mk (some p4) none (.mv t17)])
 .ret) .skip))))
 (.reg [.mk (some p18) none (.bin .add t8 (.c (.int .i64 (.ofNat 1)))),
  .mk (some p8) none (.mv t18)])))))))
 (.seq (.reg [.mk (some p4) none (.mv (.c (.int .i64 (.negSucc 0))))])
 .ret)))
 [.t p4]
def ls90 : List Nat := []

/- delver/shade.right$1 -/
def f83 : Fd := .mk [p0]
 (.seq (.reg [.locb p1 t0,
  .mk (some p2) none (.mv (.c (.bool false)))])
 (.seq (.reg [.mk (some p3) none (.fa 0 t1),
  .mk (some p4) none (.lda 2 t3),
  .mk (some p5) none (.call p66 [t4]),
  .mk (some p6) none (.bin .ne t5 (.c (.int .i64 (.ofNat 0)))),
  .mk (some p2) none (.mv t6)])
 .ret))
 [.t p2]
def ls83 : List Nat := [1]

/- delver/term.room -/
def f91 : Fd := .mk [p0, p1]
 (.seq (.reg [.mk (some p4) none (.mv (.c (.bool false)))])
 (.seq (.reg [.mk (some p5) none (.mv t0),
  .mk (some p6) none (.mv t1),
  .mk (some p7) none (.neg t6),
  .mk (some p8) none (.bin .ge t5 t7),
  .mk (some p9) none (.mv t8),
  .mk (some p10) (some (p9, true)) (.mv t0),
  .mk (some p11) (some (p9, true)) (.mv t1),
  .mk (some p12) (some (p9, true)) (.bin .le t10 t11),
  .mk (some p13) none (.pick t9 t12 (.c (.bool false))),
  .mk (some p4) none (.mv t13)])
 .ret))
 [.t p4]
def ls91 : List Nat := []

/- delver/term.Put$1 -/
def f93 : Fd := .mk [p0, p1]
 (.seq (.reg [.locb p2 t0,
  .mk (some p3) none (.mv (.c (.bool false)))])
 (.seq (.reg [.mk (some p4) none (.fa 0 t2),
  .mk (some p5) none (.ld t4),
  .mk (some p6) none (.ld t1),
  .mk (some p7) none (.bin .eq t5 t6),
  .mk (some p3) none (.mv t7)])
 .ret))
 [.t p3]
def ls93 : List Nat := [2]

/- slices.DeleteFunc[[]delver/api.Mono,delver/api.Mono] -/
def f92 : Fd := .mk [p0, p1]
 (.seq (.reg [.mk (some p4) none (.mv (.c .nils))])
 (.seq (.reg [.mk (some p8) none (.mv t0),
  .mk (some p9) none (.mv t1),
  .mk (some p10) none (.call p89 [t8, t9]),
  .mk (some p5) none (.mv t10)])
 (.seq (.seq (.reg [.mk (some p11) none (.mv t5),
  .mk (some p12) none (.bin .eq t11 (.c (.int .i64 (.negSucc 0))))])
 (.cond t12 (.seq (.reg [.mk (some p13) none (.mv t0),
  .mk (some p4) none (.mv t13)])
 .ret) .skip))
 (.seq (.seq (.reg [.mk (some p14) none (.mv t5),
  .mk (some p15) none (.bin .add t14 (.c (.int .i64 (.ofNat 1)))),
  .mk (some p6) none (.mv t15)])
 (.block 0 (.loop [p0, p1, p5, p6] (.seq (.seq (.reg [.mk (some p16) none (.mv t6),
  .mk (some p17) none (.mv t0),
  .mk (some p18) none (.len t17),
  .mk (some p19) none (.bin .lt t16 t18)])
 (.cond t19 .skip (.exit 0)))
 (.seq (.block 1 (.seq (.reg [.mk (some p22) none (.mv t0),
  .mk (some p23) none (.mv t6),
  .mk (some p24) none (.ia 2 t22 t23),
  .mk (some p25) none (.lda 2 t24),
  .loc p7 [(.int .i64 (.ofNat 0)), (.int .i64 (.ofNat 0))],
  .mk none none (.st 2 t7 t25)])
 (.seq (.reg [.mk (some p26) none (.mv t1),
  .mk (some p27) none (.lda 2 t7),
  .mk (some p28) none (.callv t26 [t27]),
  .mk (some p29) none (.not t28)])
 (.cond t29 (.seq (.reg [.mk (some p30) none (.mv t0),
  .mk (some p31) none (.mv t5),
  .mk (some p32) none (.lda 2 t7),
  .mk (some p33) none (.ia 2 t30 t31),
  .mk none none (.st 2 t33 t32)])
 (.reg [.mk (some p34) none (.mv t5),
  .mk (some p35) none (.bin .add t34 (.c (.int .i64 (.ofNat 1)))),
  .mk (some p5) none (.mv t35)])) .skip))))
 (.reg [.mk (some p20) none (.mv t6),
  .mk (some p21) none (.bin .add t20 (.c (.int .i64 (.ofNat 1)))),
  .mk (some p6) none (.mv t21)]))))))
 (.seq (.reg [.mk (some p36) none (.mv t0),
  .mk (some p37) none (.mv t5),
  .mk (some p38) none (.sla 2 t36 (some t37) none none),
  .mk none none (.clr 2 [(.int .i64 (.ofNat 0)), (.int .i64 (.ofNat 0))] t38)])
 (.seq (.reg [.mk (some p39) none (.mv t0),
  .mk (some p40) none (.mv t5),
  .mk (some p41) none (.sla 2 t39 none (some t40) none),
  .mk (some p4) none (.mv t41)])
 .ret))))))
 [.t p4]
def ls92 : List Nat := [7]

/- delver/delverref13.room -/
def f94 : Fd := .mk [p0, p1, p2]
 (.seq (.reg [.mk (some p6) none (.mv (.c (.bool false)))])
 (.seq (.seq (.reg [.mk (some p7) none (.mv t0),
  .mk (some p8) none (.bin .eq t7 (.c (.int .i64 (.ofNat 0)))),
  .mk (some p9) none (.mv t8),
  .mk (some p10) (some (p9, false)) (.mv t1),
  .mk (some p11) (some (p9, false)) (.bin .eq t10 (.c (.int .i64 (.ofNat 0)))),
  .mk (some p12) none (.pick t9 (.c (.bool true)) t11)])
 (.cond t12 (.seq (.reg [.mk (some p6) none (.mv (.c (.bool true)))])
 .ret) .skip))
 (.seq (.drw [.mk true [p0] [p13] true (.mk (some p13) none (.mv t0)),
  .mk true [p2] [p14] true (.mk (some p14) none (.mv t2)),
  .mk true [p14] [p15] true (.mk (some p15) none (.neg t14)),
  .mk true [p2] [p16] true (.mk (some p16) none (.mv t2)),
  .mk true [p13, p15, p16] [p17] false (.mk (some p17) none (.call p69 [t13, t15, t16])),
  .mk true [p17] [p18] true (.mk (some p18) none (.mv t17)),
  .mk true [p1, p18] [p19] true (.mk (some p19) (some (p18, true)) (.mv t1)),
  .mk true [p2, p18] [p20] true (.mk (some p20) (some (p18, true)) (.mv t2)),
  .mk true [p20, p18] [p21] true (.mk (some p21) (some (p18, true)) (.neg t20)),
  .mk true [p2, p18] [p22] true (.mk (some p22) (some (p18, true)) (.mv t2)),
  .mk true [p19, p21, p22, p18] [p23] false (.mk (some p23) (some (p18, true)) (.call p69 [t19, t21, t22])),
  .mk true [p18, p23] [p24] true (.mk (some p24) none (.pick t18 t23 (.c (.bool false)))),
  .mk true [p24] [p25] true (.mk (some p25) none (.mv t24)),
  .mk true [p0, p25] [p26] true (.mk (some p26) (some (p25, true)) (.mv t0)),
  .mk true [p2, p25] [p27] true (.mk (some p27) (some (p25, true)) (.mv t2)),
  .mk true [p27, p25] [p28] true (.mk (some p28) (some (p25, true)) (.neg t27)),
  .mk true [p1, p25] [p29] true (.mk (some p29) (some (p25, true)) (.mv t1)),
  .mk true [p29, p25] [p30] false (.mk (some p30) (some (p25, true)) (.call p68 [t29])),
  .mk true [p28, p30, p25] [p31] true (.mk (some p31) (some (p25, true)) (.bin .quo t28 t30)),
  .mk true [p2, p25] [p32] true (.mk (some p32) (some (p25, true)) (.mv t2)),
  .mk true [p1, p25] [p33] true (.mk (some p33) (some (p25, true)) (.mv t1)),
  .mk true [p33, p25] [p34] false (.mk (some p34) (some (p25, true)) (.call p68 [t33])),
  .mk true [p32, p34, p25] [p35] true (.mk (some p35) (some (p25, true)) (.bin .quo t32 t34)),
  .mk true [p26, p31, p35, p25] [p36] false (.mk (some p36) (some (p25, true)) (.call p69 [t26, t31, t35])),
  .mk true [p25, p36] [p37] true (.mk (some p37) none (.pick t25 t36 (.c (.bool false)))),
  .mk true [p37] [p6] true (.mk (some p6) none (.mv t37))])
 .ret)))
 [.t p6]
def ls94 : List Nat := []

/- delver/shade.has$1 -/
def f107 : Fd := .mk [p0, p1]
 (.seq (.reg [.locb p2 t0,
  .mk (some p3) none (.mv (.c (.bool false)))])
 (.seq (.reg [.mk (some p4) none (.fa 2 t2),
  .mk (some p5) none (.ld t4),
  .mk (some p6) none (.mv t5),
  .mk (some p7) (some (p6, true)) (.fa 0 t2),
  .mk (some p8) (some (p6, true)) (.lda 2 t7),
  .mk (some p9) (some (p6, true)) (.ld t1),
  .mk (some p10) (some (p6, true)) (.call p64 [t8, t9]),
  .mk (some p11) (some (p6, true)) (.bin .ne t10 (.c (.int .i64 (.ofNat 0)))),
  .mk (some p12) none (.pick t6 t11 (.c (.bool false))),
  .mk (some p3) none (.mv t12)])
 .ret))
 [.t p3]
def ls107 : List Nat := [2]

/- slices.IndexFunc[[]delver/api.Cons,delver/api.Cons] -/
def f106 : Fd := .mk [p0, p1]
 (.seq (.reg [.mk (some p4) none (.mv (.c (.int .i64 (.ofNat 0))))])
 (.seq (.seq (.reg [.mk (some p6) none (.mv t0),
  .mk (some p7) none (.len t6),
  .mk (some p8) none (.mv (.c (.int .i64 (.ofNat 0))))])
 (.block 0 (.loop [p0, p1, p7, p8] (.seq (.reg [.mk (some p9) none (.bin .lt t8 t7)])
 (.seq (.cond t9 .skip (.exit 0))
 (.seq (.block 1 (.seq (.reg [.mk (some p10) none (.mv t8),
  .mk (some p5) none (.mv t10)])
 (.seq (.reg [.mk (some p11) none (.mv t1),
  .mk (some p12) none (.mv t0),
  .mk (some p13) none (.mv t5),
  .mk (some p14) none (.ia 3 t12 t13),
  .mk (some p15) none (.lda 3 t14),
  .mk (some p16) none (.callv t11 [t15])])
 (.cond t16 (.seq (.reg [.mk (some p17) none (.mv t5),
  .mk (some p4) none (.mv t17)])
 .ret) .skip))))
 (.reg [.mk (some p18) none (.bin .add t8 (.c (.int .i64 (.ofNat 1)))),
  .mk (some p8) none (.mv t18)])))))))
 (.seq (.reg [.mk (some p4) none (.mv (.c (.int .i64 (.negSucc 0))))])
 .ret)))
 [.t p4]
def ls106 : List Nat := []

/- slices.Clone[[]delver/api.Mono,delver/api.Mono] -/
def f108 : Fd := .mk [p0]
 (.seq (.reg [.mk (some p2) none (.mv (.c .nils))])
 (.seq (.seq (.reg [.mk (some p3) none (.mv t0),
  .mk (some p4) none (.isnil false t3)])
 (.cond t4 (.seq (.reg [.mk (some p2) none (.mv (.c .nils))])
 .ret) .skip))
 (.seq (.reg [.mk (some p5) none (.bsl 0 2 [] []),
  .mk (some p6) none (.mv t0),
  .mk (some p7) none (.app 2 16 t5 t6),
  .mk (some p2) none (.mv t7)])
 .ret)))
 [.t p2]
def ls108 : List Nat := []

/- delver/term.times -/
def f95 : Fd := .mk [p0, p1, p2]
 (.seq (.reg [.mk (some p6) none (.mv (.c (.int .i64 (.ofNat 0)))),
  .mk (some p7) none (.mv (.c (.bool false)))])
 (.seq (.seq (.reg [.mk (some p10) none (.mv t0),
  .mk (some p11) none (.bin .eq t10 (.c (.int .i64 (.ofNat 0)))),
  .mk (some p12) none (.mv t11),
  .mk (some p13) (some (p12, false)) (.mv t1),
  .mk (some p14) (some (p12, false)) (.bin .eq t13 (.c (.int .i64 (.ofNat 0)))),
  .mk (some p15) none (.pick t12 (.c (.bool true)) t14)])
 (.cond t15 (.seq (.reg [.mk (some p6) none (.mv (.c (.int .i64 (.ofNat 0)))),
  .mk (some p7) none (.mv (.c (.bool true)))])
 .ret) .skip))
 (.seq (.seq (.reg [.mk (some p16) none (.mv t0),
  .mk (some p17) none (.mv t2),
  .mk (some p18) none (.call p91 [t16, t17]),
  .mk (some p19) none (.not t18),
  .mk (some p20) none (.mv t19),
  .mk (some p21) (some (p20, false)) (.mv t1),
  .mk (some p22) (some (p20, false)) (.mv t2),
  .mk (some p23) (some (p20, false)) (.call p91 [t21, t22]),
  .mk (some p24) (some (p20, false)) (.not t23),
  .mk (some p25) none (.pick t20 (.c (.bool true)) t24)])
 (.cond t25 (.seq (.reg [.mk (some p6) none (.mv (.c (.int .i64 (.ofNat 0)))),
  .mk (some p7) none (.mv (.c (.bool false)))])
 .ret) .skip))
 (.seq (.reg [.mk (some p26) none (.mv t0),
  .mk (some p27) none (.mv t0),
  .mk (some p28) none (.neg t27),
  .mk (some p29) none (.mx t26 [t28]),
  .mk (some p30) none (.mv t1),
  .mk (some p31) none (.mv t1),
  .mk (some p32) none (.neg t31),
  .mk (some p33) none (.mx t30 [t32]),
  .mk (some p8) none (.mv t29),
  .mk (some p9) none (.mv t33)])
 (.seq (.drw [.mk true [p0] [p34] true (.mk (some p34) none (.mv t0)),
  .mk true [p1] [p35] true (.mk (some p35) none (.mv t1)),
  .mk true [p34, p35] [p36] true (.mk (some p36) none (.bin .mul t34 t35)),
  .mk true [p8] [p37] true (.mk (some p37) none (.mv t8)),
  .mk true [p2] [p38] true (.mk (some p38) none (.mv t2)),
  .mk true [p9] [p39] true (.mk (some p39) none (.mv t9)),
  .mk true [p38, p39] [p40] true (.mk (some p40) none (.bin .quo t38 t39)),
  .mk true [p37, p40] [p41] true (.mk (some p41) none (.bin .le t37 t40)),
  .mk true [p36] [p6] true (.mk (some p6) none (.mv t36)),
  .mk true [p41] [p7] true (.mk (some p7) none (.mv t41))])
 .ret)))))
 [.t p6, .t p7]
def ls95 : List Nat := []

/- delver/term.sum -/
def f110 : Fd := .mk [p0, p1]
 (.seq (.reg [.locb p2 t0,
  .locb p3 t1,
  .loc p4 [(.int .i64 (.ofNat 0)), .nils]])
 (.seq (.reg [.mk (some p9) none (.fa 0 t2),
  .mk (some p10) none (.ld t9),
  .mk (some p11) none (.fa 0 t3),
  .mk (some p12) none (.ld t11),
  .mk (some p13) none (.bin .add t10 t12),
  .mk (some p14) none (.bld [(.int .i64 (.ofNat 0)), .nils] [(0, 1, t13)]),
  .loc p5 [(.int .i64 (.ofNat 0)), .nils],
  .mk none none (.st 2 t5 t14)])
 (.seq (.drw [.mk true [p2] [p15] true (.mk (some p15) none (.fa 1 t2)),
  .mk true [p2, p15] [p16] true (.mk (some p16) none (.ld t15)),
  .mk true [p3] [p17] true (.mk (some p17) none (.fa 1 t3)),
  .mk true [p3, p17] [p18] true (.mk (some p18) none (.ld t17)),
  .mk true [p16] [p6] true (.mk (some p6) none (.mv t16)),
  .mk true [p18] [p7] true (.mk (some p7) none (.mv t18))])
 (.seq (.block 0 (.loop [p4, p5, p6, p7] (.seq (.seq (.reg [.mk (some p19) none (.mv t6),
  .mk (some p20) none (.len t19),
  .mk (some p21) none (.bin .gt t20 (.c (.int .i64 (.ofNat 0)))),
  .mk (some p22) none (.mv t21),
  .mk (some p23) (some (p22, false)) (.mv t7),
  .mk (some p24) (some (p22, false)) (.len t23),
  .mk (some p25) (some (p22, false)) (.bin .gt t24 (.c (.int .i64 (.ofNat 0)))),
  .mk (some p26) none (.pick t22 (.c (.bool true)) t25)])
 (.cond t26 .skip (.exit 0)))
 (.block 1 (.seq (.reg [.loc p8 [(.int .i64 (.ofNat 0)), (.int .i64 (.ofNat 0))]])
 (.seq (.block 2 (.seq (.drw [.mk true [p7] [p46] true (.mk (some p46) none (.mv t7)),
  .mk true [p46] [p47] true (.mk (some p47) none (.len t46)),
  .mk true [p47] [p48] true (.mk (some p48) none (.bin .eq t47 (.c (.int .i64 (.ofNat 0))))),
  .mk true [p48] [p49] true (.mk (some p49) none (.mv t48)),
  .mk true [p6, p49] [p50] true (.mk (some p50) (some (p49, false)) (.mv t6)),
  .mk true [p50, p49] [p51] true (.mk (some p51) (some (p49, false)) (.len t50)),
  .mk true [p51, p49] [p52] true (.mk (some p52) (some (p49, false)) (.bin .gt t51 (.c (.int .i64 (.ofNat 0))))),
  .mk true [p52, p49] [p53] true (.mk (some p53) (some (p49, false)) (.mv t52)),
  .mk true [p6, p53] [p54] true (.mk (some p54) (some (p53, true)) (.mv t6)),
  .mk true [p54, p53] [p55] true (.mk (some p55) (some (p53, true)) (.ia 2 t54 (.c (.int .i64 (.ofNat 0))))),
  .mk true [p55, p53] [p56] true (.mk (some p56) (some (p53, true)) (.fa 0 t55)),
  .mk true [p56, p53] [p57] true (.mk (some p57) (some (p53, true)) (.ld t56)),
  .mk true [p7, p53] [p58] true (.mk (some p58) (some (p53, true)) (.mv t7)),
  .mk true [p58, p53] [p59] true (.mk (some p59) (some (p53, true)) (.ia 2 t58 (.c (.int .i64 (.ofNat 0))))),
  .mk true [p59, p53] [p60] true (.mk (some p60) (some (p53, true)) (.fa 0 t59)),
  .mk true [p60, p53] [p61] true (.mk (some p61) (some (p53, true)) (.ld t60)),
  .mk true [p57, p61, p53] [p62] true (.mk (some p62) (some (p53, true)) (.bin .lt t57 t61)),
  .mk true [p53, p62, p49] [p63] true (.mk (some p63) (some (p49, false)) (.pick t53 t62 (.c (.bool false)))),
  .mk true [p49, p63] [p64] true (.mk (some p64) none (.pick t49 (.c (.bool true)) t63)),
  .mk true [p64] [p45] true (.mk (some p45) none (.mv t64))])
 (.cond t45 (.drw [.mk true [p6] [p65] true (.mk (some p65) none (.mv t6)),
  .mk true [p65] [p66] true (.mk (some p66) none (.ia 2 t65 (.c (.int .i64 (.ofNat 0))))),
  .mk true [p66] [p67] true (.mk (some p67) none (.lda 2 t66)),
  .mk true [p6] [p68] true (.mk (some p68) none (.mv t6)),
  .mk true [p68] [p69] true (.mk (some p69) none (.sla 2 t68 (some (.c (.int .i64 (.ofNat 1)))) none none)),
  .mk true [p8, p67] [p8] true (.mk none none (.st 2 t8 t67)),
  .mk true [p69] [p6] true (.mk (some p6) none (.mv t69))]) (.seq (.drw [.mk true [p6] [p71] true (.mk (some p71) none (.mv t6)),
  .mk true [p71] [p72] true (.mk (some p72) none (.len t71)),
  .mk true [p72] [p73] true (.mk (some p73) none (.bin .eq t72 (.c (.int .i64 (.ofNat 0))))),
  .mk true [p73] [p74] true (.mk (some p74) none (.mv t73)),
  .mk true [p7, p74] [p75] true (.mk (some p75) (some (p74, false)) (.mv t7)),
  .mk true [p75, p74] [p76] true (.mk (some p76) (some (p74, false)) (.ia 2 t75 (.c (.int .i64 (.ofNat 0))))),
  .mk true [p76, p74] [p77] true (.mk (some p77) (some (p74, false)) (.fa 0 t76)),
  .mk true [p77, p74] [p78] true (.mk (some p78) (some (p74, false)) (.ld t77)),
  .mk true [p6, p74] [p79] true (.mk (some p79) (some (p74, false)) (.mv t6)),
  .mk true [p79, p74] [p80] true (.mk (some p80) (some (p74, false)) (.ia 2 t79 (.c (.int .i64 (.ofNat 0))))),
  .mk true [p80, p74] [p81] true (.mk (some p81) (some (p74, false)) (.fa 0 t80)),
  .mk true [p81, p74] [p82] true (.mk (some p82) (some (p74, false)) (.ld t81)),
  .mk true [p78, p82, p74] [p83] true (.mk (some p83) (some (p74, false)) (.bin .lt t78 t82)),
  .mk true [p74, p83] [p84] true (.mk (some p84) none (.pick t74 (.c (.bool true)) t83)),
  .mk true [p84] [p70] true (.mk (some p70) none (.mv t84))])
 (.cond t70 (.drw [.mk true [p7] [p85] true (.mk (some p85) none (.mv t7)),
  .mk true [p85] [p86] true (.mk (some p86) none (.ia 2 t85 (.c (.int .i64 (.ofNat 0))))),
  .mk true [p86] [p87] true (.mk (some p87) none (.lda 2 t86)),
  .mk true [p7] [p88] true (.mk (some p88) none (.mv t7)),
  .mk true [p88] [p89] true (.mk (some p89) none (.sla 2 t88 (some (.c (.int .i64 (.ofNat 1)))) none none)),
  .mk true [p8, p87] [p8] true (.mk none none (.st 2 t8 t87)),
  .mk true [p89] [p7] true (.mk (some p7) none (.mv t89))]) (.seq (.drw [.mk true [p6] [p27] true (.mk (some p27) none (.mv t6)),
  .mk true [p27] [p28] true (.mk (some p28) none (.ia 2 t27 (.c (.int .i64 (.ofNat 0))))),
  .mk true [p28] [p29] true (.mk (some p29) none (.fa 0 t28)),
  .mk true [p29] [p30] true (.mk (some p30) none (.ld t29)),
  .mk true [p6] [p31] true (.mk (some p31) none (.mv t6)),
  .mk true [p31] [p32] true (.mk (some p32) none (.ia 2 t31 (.c (.int .i64 (.ofNat 0))))),
  .mk true [p32] [p33] true (.mk (some p33) none (.fa 1 t32)),
  .mk true [p33] [p34] true (.mk (some p34) none (.ld t33)),
  .mk true [p7] [p35] true (.mk (some p35) none (.mv t7)),
  .mk true [p35] [p36] true (.mk (some p36) none (.ia 2 t35 (.c (.int .i64 (.ofNat 0))))),
  .mk true [p36] [p37] true (.mk (some p37) none (.fa 1 t36)),
  .mk true [p37] [p38] true (.mk (some p38) none (.ld t37)),
  .mk true [p34, p38] [p39] true (.mk (some p39) none (.bin .add t34 t38)),
  .mk true [p30, p39] [p40] true (.mk (some p40) none (.bld [(.int .i64 (.ofNat 0)), (.int .i64 (.ofNat 0))] [(0, 1, t30), (1, 1, t39)])),
  .mk true [p8, p40] [p8] true (.mk none none (.st 2 t8 t40))])
 (.drw [.mk true [p6] [p41] true (.mk (some p41) none (.mv t6)),
  .mk true [p41] [p42] true (.mk (some p42) none (.sla 2 t41 (some (.c (.int .i64 (.ofNat 1)))) none none)),
  .mk true [p7] [p43] true (.mk (some p43) none (.mv t7)),
  .mk true [p43] [p44] true (.mk (some p44) none (.sla 2 t43 (some (.c (.int .i64 (.ofNat 1)))) none none)),
  .mk true [p42] [p6] true (.mk (some p6) none (.mv t42)),
  .mk true [p44] [p7] true (.mk (some p7) none (.mv t44))])))))))
 (.seq (.reg [.mk (some p90) none (.fa 1 t8),
  .mk (some p91) none (.ld t90),
  .mk (some p92) none (.bin .ne t91 (.c (.int .i64 (.ofNat 0))))])
 (.cond t92 (.reg [.mk (some p93) none (.fa 1 t5),
  .mk (some p94) none (.ld t93),
  .mk (some p95) none (.lda 2 t8),
  .mk (some p96) none (.bsl 1 2 [(.int .i64 (.ofNat 0)), (.int .i64 (.ofNat 0))] [(0, 2, t95)]),
  .mk (some p97) none (.app 2 16 t94 t96),
  .mk (some p98) none (.fa 1 t5),
  .mk none none (.st 1 t98 t97)]) .skip))))))))
 (.seq (.reg [.mk (some p99) none (.lda 2 t5),
  .mk none none (.st 2 t4 t99)])
 .ret)))))
 [.cell p4 (some 2)]
def ls110 : List Nat := [2, 3, 4, 5, 8]

/- delver/term.fits -/
def f109 : Fd := .mk [p0]
 (.seq (.reg [.locb p1 t0,
  .loc p2 [(.int .i64 (.ofNat 0)), .nils],
  .mk (some p3) none (.mv (.c (.int .i64 (.ofNat 0))))])
 (.seq (.seq (.reg [.mk (some p4) none (.lda 2 t1),
  .mk (some p5) none (.call p66 [t4]),
  .mk (some p6) none (.bin .ne t5 (.c (.int .i64 (.ofNat 0))))])
 (.cond t6 (.seq (.reg [.mk (some p7) none (.bld [(.int .i64 (.ofNat 0)), .nils] []),
  .mk none none (.st 2 t2 t7),
  .mk (some p3) none (.mv (.c (.int .i64 (.ofNat 12))))])
 .ret) .skip))
 (.seq (.reg [.mk (some p8) none (.lda 2 t1),
  .mk none none (.st 2 t2 t8),
  .mk (some p3) none (.mv (.c (.int .i64 (.ofNat 0))))])
 .ret)))
 [.cell p2 (some 2), .t p3]
def ls109 : List Nat := [1, 2]

def FT : Tr Fd := (.nd none (.nd none (.nd none (.nd none (.nd (some f15) (.nd (some f31) (.nd (some f63) .nl .nl) (.nd (some f95) .nl .nl)) .nl) (.nd (some f23) (.nd none (.nd (some f71) .nl .nl) .nl) (.nd (some f55) (.nd (some f87) .nl .nl) .nl))) (.nd none (.nd (some f19) (.nd (some f35) (.nd (some f67) .nl .nl) .nl) (.nd (some f51) (.nd (some f83) .nl .nl) .nl)) (.nd (some f27) (.nd none (.nd (some f75) .nl .nl) (.nd (some f107) .nl .nl)) (.nd (some f59) (.nd (some f91) .nl .nl) .nl)))) (.nd (some f5) (.nd none (.nd (some f17) (.nd (some f33) (.nd (some f65) .nl .nl) .nl) (.nd (some f49) .nl .nl)) (.nd (some f25) (.nd none (.nd (some f73) .nl .nl) .nl) (.nd (some f57) (.nd (some f89) .nl .nl) .nl))) (.nd none (.nd (some f21) (.nd (some f37) (.nd (some f69) .nl .nl) .nl) (.nd (some f53) (.nd (some f85) .nl .nl) .nl)) (.nd (some f29) (.nd none (.nd (some f77) .nl .nl) (.nd (some f109) .nl .nl)) (.nd (some f61) (.nd (some f93) .nl .nl) .nl))))) (.nd none (.nd none (.nd none (.nd (some f16) (.nd (some f32) (.nd (some f64) .nl .nl) .nl) (.nd (some f48) .nl .nl)) (.nd (some f24) (.nd (some f40) (.nd (some f72) .nl .nl) .nl) (.nd (some f56) (.nd (some f88) .nl .nl) .nl))) (.nd none (.nd (some f20) (.nd (some f36) (.nd (some f68) .nl .nl) .nl) (.nd (some f52) (.nd (some f84) .nl .nl) .nl)) (.nd (some f28) (.nd none (.nd (some f76) .nl .nl) (.nd (some f108) .nl .nl)) (.nd (some f60) (.nd (some f92) .nl .nl) .nl)))) (.nd none (.nd none (.nd (some f18) (.nd (some f34) (.nd (some f66) .nl .nl) .nl) (.nd (some f50) (.nd (some f82) .nl .nl) .nl)) (.nd (some f26) (.nd none (.nd (some f74) .nl .nl) (.nd (some f106) .nl .nl)) (.nd (some f58) (.nd (some f90) .nl .nl) .nl))) (.nd none (.nd (some f22) (.nd (some f38) (.nd (some f70) .nl .nl) .nl) (.nd (some f54) (.nd (some f86) .nl .nl) .nl)) (.nd (some f30) (.nd none .nl (.nd (some f110) .nl .nl)) (.nd (some f62) (.nd (some f94) .nl .nl) .nl))))))

end Go.Proofs.Ythdlkpmhjbaplaa.Dx
