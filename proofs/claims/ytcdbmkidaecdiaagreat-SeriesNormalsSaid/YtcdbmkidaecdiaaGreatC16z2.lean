/- The functions of the seat, part 2. -/
import Derived.Test.YtcdbmkidaecdiaaGreatC16z
namespace Go.Proofs.YtcdbmkidaecdiaaGreat
open Go Go.Ay
set_option maxRecDepth 100000
noncomputable abbrev jH:=zZ 5
noncomputable abbrev wE:=zZ 17
noncomputable abbrev Br:=zZ 20
noncomputable abbrev Rz:=zZ 40
noncomputable abbrev Gw:=zZ 42
noncomputable abbrev gJ:=zZ 52
noncomputable abbrev oF:=zZ 55
noncomputable abbrev fR:=zZ 57
noncomputable abbrev zN:=zZ 58
noncomputable abbrev Bn:=zZ 67
noncomputable abbrev dU:=zZ 68
noncomputable abbrev uY:=zZ 71
noncomputable abbrev yK:=zZ 76
noncomputable abbrev qZ:=zZ 85
noncomputable abbrev kS:=zZ 88
noncomputable abbrev jO:=zZ 90
noncomputable abbrev Lk:=zZ 98
noncomputable abbrev kF:=zZ 103
noncomputable abbrev lJ:=zZ 107
noncomputable abbrev By:=zZ 121
noncomputable abbrev xV:=zZ 122
noncomputable abbrev Nw:=zZ 129
noncomputable abbrev sW:=zZ 133
noncomputable abbrev lD:=zZ 135
noncomputable abbrev zT:=zZ 136
noncomputable abbrev fU:=zZ 138
noncomputable abbrev Bk:=zZ 144
noncomputable abbrev rM:=zZ 148
noncomputable abbrev En:=zZ 150
noncomputable abbrev rD:=zZ 154
noncomputable abbrev fW:=zZ 155
noncomputable abbrev pE:=zZ 162
noncomputable abbrev lY:=zZ 169
noncomputable abbrev iS:=zZ 173
noncomputable abbrev pP:=zZ 177
noncomputable abbrev xW:=zZ 184
noncomputable abbrev xY:=zZ 192
noncomputable abbrev wJ:=zZ 193
noncomputable abbrev Lc:=zZ 207
noncomputable abbrev jX:=zZ 214
noncomputable abbrev gV:=zZ 219
noncomputable abbrev mJ:=zZ 222
noncomputable abbrev wG:=zZ 228
noncomputable abbrev sH:=zZ 230
noncomputable abbrev rW:=zZ 231
noncomputable abbrev Eo:=zZ 243
noncomputable abbrev mZ:=zZ 245
noncomputable abbrev zU:=zZ 246
noncomputable abbrev dV:=zZ 247
noncomputable abbrev dX:=zZ 251
noncomputable abbrev dS:=zZ 253
noncomputable abbrev eH:=zZ 254
end Go.Proofs.YtcdbmkidaecdiaaGreat
