/- The functions of the seat, part 3. -/
import Derived.Test.YtcdbmkidaecdiaaGreatC16z
namespace Go.Proofs.YtcdbmkidaecdiaaGreat
open Go Go.Ay
set_option maxRecDepth 100000
noncomputable abbrev Br:=zZ 20
noncomputable abbrev uP:=zZ 24
noncomputable abbrev Es:=zZ 29
noncomputable abbrev Ue:=zZ 39
noncomputable abbrev Gw:=zZ 42
noncomputable abbrev pZ:=zZ 50
noncomputable abbrev Ep:=zZ 65
noncomputable abbrev dU:=zZ 68
noncomputable abbrev uE:=zZ 69
noncomputable abbrev jD:=zZ 75
noncomputable abbrev yK:=zZ 76
noncomputable abbrev Er:=zZ 86
noncomputable abbrev sV:=zZ 89
noncomputable abbrev Ej:=zZ 94
noncomputable abbrev Cr:=zZ 100
noncomputable abbrev kF:=zZ 103
noncomputable abbrev Bx:=zZ 106
noncomputable abbrev Lr:=zZ 119
noncomputable abbrev vF:=zZ 120
noncomputable abbrev zT:=zZ 136
noncomputable abbrev lN:=zZ 138
noncomputable abbrev tJ:=zZ 140
noncomputable abbrev Eg:=zZ 141
noncomputable abbrev sI:=zZ 142
noncomputable abbrev Ic:=zZ 146
noncomputable abbrev vY:=zZ 147
noncomputable abbrev En:=zZ 150
noncomputable abbrev pE:=zZ 162
noncomputable abbrev cX:=zZ 163
noncomputable abbrev iS:=zZ 173
noncomputable abbrev Ir:=zZ 178
noncomputable abbrev Ck:=zZ 180
noncomputable abbrev pN:=zZ 182
noncomputable abbrev Iw:=zZ 185
noncomputable abbrev qA:=zZ 190
noncomputable abbrev xY:=zZ 192
noncomputable abbrev sJ:=zZ 196
noncomputable abbrev Lc:=zZ 207
noncomputable abbrev jX:=zZ 214
noncomputable abbrev gV:=zZ 219
noncomputable abbrev Fe:=zZ 226
noncomputable abbrev eZ:=zZ 227
noncomputable abbrev sH:=zZ 230
noncomputable abbrev fV:=zZ 236
noncomputable abbrev eM:=zZ 237
noncomputable abbrev kE:=zZ 241
noncomputable abbrev dX:=zZ 251
noncomputable abbrev mI:=zZ 256
noncomputable abbrev kZ:=zZ 257
noncomputable abbrev eS:=zZ 260
noncomputable abbrev fE:=zZ 262
end Go.Proofs.YtcdbmkidaecdiaaGreat
