/- The functions of the seat, part 2. -/
import Derived.Test.YtcdbmkidaecdiaaGreatC16z
namespace Go.Proofs.YtcdbmkidaecdiaaGreat
open Go Go.Ay
set_option maxRecDepth 100000
noncomputable abbrev Ak:=zZ 12
noncomputable abbrev wV:=zZ 14
noncomputable abbrev sL:=zZ 24
noncomputable abbrev Df:=zZ 36
noncomputable abbrev ajR:=zZ 37
noncomputable abbrev Sc:=zZ 39
noncomputable abbrev nV:=zZ 47
noncomputable abbrev qT:=zZ 48
noncomputable abbrev uS:=zZ 49
noncomputable abbrev dY:=zZ 54
noncomputable abbrev yW:=zZ 56
noncomputable abbrev aiS:=zZ 58
noncomputable abbrev jA:=zZ 75
noncomputable abbrev rJ:=zZ 78
noncomputable abbrev vY:=zZ 81
noncomputable abbrev jN:=zZ 90
noncomputable abbrev Qz:=zZ 91
noncomputable abbrev Ac:=zZ 97
noncomputable abbrev Kc:=zZ 98
noncomputable abbrev Db:=zZ 99
noncomputable abbrev kB:=zZ 103
noncomputable abbrev uU:=zZ 107
noncomputable abbrev eM:=zZ 108
noncomputable abbrev pU:=zZ 130
noncomputable abbrev sC:=zZ 131
noncomputable abbrev kT:=zZ 135
noncomputable abbrev rW:=zZ 142
noncomputable abbrev Dq:=zZ 150
noncomputable abbrev xH:=zZ 160
noncomputable abbrev cG:=zZ 163
noncomputable abbrev rE:=zZ 164
noncomputable abbrev fL:=zZ 168
noncomputable abbrev dV:=zZ 173
noncomputable abbrev fE:=zZ 174
noncomputable abbrev oN:=zZ 177
noncomputable abbrev Bp:=zZ 180
noncomputable abbrev wU:=zZ 184
noncomputable abbrev eU:=zZ 186
noncomputable abbrev uH:=zZ 193
noncomputable abbrev zM:=zZ 199
noncomputable abbrev Nj:=zZ 209
noncomputable abbrev fY:=zZ 219
noncomputable abbrev De:=zZ 223
noncomputable abbrev iA:=zZ 227
noncomputable abbrev uY:=zZ 228
noncomputable abbrev qW:=zZ 231
noncomputable abbrev dS:=zZ 237
noncomputable abbrev gX:=zZ 248
noncomputable abbrev sH:=zZ 250
noncomputable abbrev gE:=zZ 254
noncomputable abbrev lI:=zZ 259
noncomputable abbrev iD:=zZ 264
end Go.Proofs.YtcdbmkidaecdiaaGreat
