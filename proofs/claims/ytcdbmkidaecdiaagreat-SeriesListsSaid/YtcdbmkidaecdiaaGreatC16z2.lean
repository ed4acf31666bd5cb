/- The functions of the seat, part 2. -/
import Derived.Test.YtcdbmkidaecdiaaGreatC16z
namespace Go.Proofs.YtcdbmkidaecdiaaGreat
open Go Go.Ay
set_option maxRecDepth 100000
noncomputable abbrev qN:=zZ 21
noncomputable abbrev Dc:=zZ 29
noncomputable abbrev Tq:=zZ 39
noncomputable abbrev Ll:=zZ 41
noncomputable abbrev Hy:=zZ 42
noncomputable abbrev oW:=zZ 50
noncomputable abbrev fH:=zZ 52
noncomputable abbrev zA:=zZ 58
noncomputable abbrev Dd:=zZ 65
noncomputable abbrev Bh:=zZ 67
noncomputable abbrev iV:=zZ 75
noncomputable abbrev qX:=zZ 78
noncomputable abbrev Ak:=zZ 79
noncomputable abbrev wC:=zZ 81
noncomputable abbrev rI:=zZ 87
noncomputable abbrev sE:=zZ 89
noncomputable abbrev kC:=zZ 95
noncomputable abbrev uJ:=zZ 107
noncomputable abbrev vA:=zZ 119
noncomputable abbrev An:=zZ 121
noncomputable abbrev xH:=zZ 122
noncomputable abbrev sG:=zZ 131
noncomputable abbrev sI:=zZ 133
noncomputable abbrev yH:=zZ 160
noncomputable abbrev Aq:=zZ 161
noncomputable abbrev cJ:=zZ 163
noncomputable abbrev qU:=zZ 164
noncomputable abbrev Gn:=zZ 167
noncomputable abbrev wQ:=zZ 184
noncomputable abbrev eM:=zZ 186
noncomputable abbrev uL:=zZ 193
noncomputable abbrev rZ:=zZ 194
noncomputable abbrev mX:=zZ 195
noncomputable abbrev kI:=zZ 197
noncomputable abbrev Bk:=zZ 199
noncomputable abbrev Db:=zZ 202
noncomputable abbrev Ks:=zZ 207
noncomputable abbrev Nv:=zZ 208
noncomputable abbrev Mu:=zZ 209
noncomputable abbrev mY:=zZ 212
noncomputable abbrev qY:=zZ 231
noncomputable abbrev iT:=zZ 238
noncomputable abbrev jN:=zZ 241
noncomputable abbrev fC:=zZ 247
noncomputable abbrev gH:=zZ 248
noncomputable abbrev dJ:=zZ 249
noncomputable abbrev fG:=zZ 251
noncomputable abbrev jV:=zZ 257
noncomputable abbrev fY:=zZ 260
noncomputable abbrev gX:=zZ 264
end Go.Proofs.YtcdbmkidaecdiaaGreat
