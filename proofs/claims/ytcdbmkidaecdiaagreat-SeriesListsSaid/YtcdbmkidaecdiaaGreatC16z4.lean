/- The functions of the seat, part 4. -/
import Derived.Test.YtcdbmkidaecdiaaGreatC16z
namespace Go.Proofs.YtcdbmkidaecdiaaGreat
open Go Go.Ay
set_option maxRecDepth 100000
noncomputable abbrev sF:=zZ 4
noncomputable abbrev nX:=zZ 10
noncomputable abbrev wK:=zZ 16
noncomputable abbrev vB:=zZ 17
noncomputable abbrev lU:=zZ 18
noncomputable abbrev mM:=zZ 19
noncomputable abbrev oK:=zZ 20
noncomputable abbrev lN:=zZ 23
noncomputable abbrev Eu:=zZ 30
noncomputable abbrev rR:=zZ 31
noncomputable abbrev sC:=zZ 46
noncomputable abbrev xI:=zZ 53
noncomputable abbrev yX:=zZ 56
noncomputable abbrev Ho:=zZ 60
noncomputable abbrev tL:=zZ 69
noncomputable abbrev Kj:=zZ 80
noncomputable abbrev zS:=zZ 100
noncomputable abbrev sD:=zZ 102
noncomputable abbrev sH:=zZ 104
noncomputable abbrev jS:=zZ 105
noncomputable abbrev Pd:=zZ 129
noncomputable abbrev EJ:=zZ 137
noncomputable abbrev Cw:=zZ 150
noncomputable abbrev fD:=zZ 155
noncomputable abbrev Ij:=zZ 158
noncomputable abbrev Gs:=zZ 166
noncomputable abbrev nU:=zZ 177
noncomputable abbrev Kz:=zZ 181
noncomputable abbrev uG:=zZ 183
noncomputable abbrev rT:=zZ 196
noncomputable abbrev mP:=zZ 198
noncomputable abbrev Fe:=zZ 203
noncomputable abbrev oN:=zZ 206
noncomputable abbrev eP:=zZ 216
noncomputable abbrev lC:=zZ 222
noncomputable abbrev DK:=zZ 224
noncomputable abbrev Dv:=zZ 226
noncomputable abbrev uP:=zZ 228
noncomputable abbrev mB:=zZ 232
noncomputable abbrev mW:=zZ 233
noncomputable abbrev iK:=zZ 234
noncomputable abbrev jX:=zZ 235
noncomputable abbrev dQ:=zZ 237
noncomputable abbrev fN:=zZ 239
noncomputable abbrev dS:=zZ 252
noncomputable abbrev eY:=zZ 253
noncomputable abbrev lH:=zZ 256
noncomputable abbrev iF:=zZ 258
noncomputable abbrev lJ:=zZ 259
end Go.Proofs.YtcdbmkidaecdiaaGreat
