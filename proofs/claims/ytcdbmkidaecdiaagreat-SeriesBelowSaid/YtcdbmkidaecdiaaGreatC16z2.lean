/- The functions of the seat, part 2. -/
import Derived.Test.YtcdbmkidaecdiaaGreatC16z
namespace Go.Proofs.YtcdbmkidaecdiaaGreat
open Go Go.Ay
set_option maxRecDepth 100000
noncomputable abbrev sL:=zZ 6
noncomputable abbrev Em:=zZ 11
noncomputable abbrev xT:=zZ 14
noncomputable abbrev wE:=zZ 17
noncomputable abbrev zS:=zZ 26
noncomputable abbrev Gs:=zZ 30
noncomputable abbrev El:=zZ 32
noncomputable abbrev Nq:=zZ 44
noncomputable abbrev rR:=zZ 48
noncomputable abbrev vW:=zZ 49
noncomputable abbrev yQ:=zZ 53
noncomputable abbrev eX:=zZ 54
noncomputable abbrev oF:=zZ 55
noncomputable abbrev Bn:=zZ 67
noncomputable abbrev Eo:=zZ 82
noncomputable abbrev sP:=zZ 88
noncomputable abbrev jO:=zZ 90
noncomputable abbrev Ma:=zZ 92
noncomputable abbrev Eh:=zZ 99
noncomputable abbrev He:=zZ 101
noncomputable abbrev fL:=zZ 108
noncomputable abbrev yG:=zZ 124
noncomputable abbrev zV:=zZ 128
noncomputable abbrev Nw:=zZ 129
noncomputable abbrev Pt:=zZ 134
noncomputable abbrev qB:=zZ 143
noncomputable abbrev Bk:=zZ 144
noncomputable abbrev Iy:=zZ 158
noncomputable abbrev zM:=zZ 160
noncomputable abbrev kA:=zZ 168
noncomputable abbrev lY:=zZ 169
noncomputable abbrev kX:=zZ 171
noncomputable abbrev lV:=zZ 175
noncomputable abbrev lT:=zZ 179
noncomputable abbrev Cf:=zZ 187
noncomputable abbrev qH:=zZ 188
noncomputable abbrev oP:=zZ 195
noncomputable abbrev lJ:=zZ 197
noncomputable abbrev nY:=zZ 198
noncomputable abbrev Bj:=zZ 199
noncomputable abbrev pV:=zZ 206
noncomputable abbrev Ql:=zZ 209
noncomputable abbrev iF:=zZ 217
noncomputable abbrev Et:=zZ 223
noncomputable abbrev wG:=zZ 228
noncomputable abbrev rW:=zZ 231
noncomputable abbrev kT:=zZ 235
noncomputable abbrev jH:=zZ 238
noncomputable abbrev dA:=zZ 249
noncomputable abbrev mF:=zZ 259
noncomputable abbrev dQ:=zZ 261
end Go.Proofs.YtcdbmkidaecdiaaGreat
