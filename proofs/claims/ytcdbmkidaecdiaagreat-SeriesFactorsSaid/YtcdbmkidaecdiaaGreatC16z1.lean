/- The functions of the seat, part 1. -/
import Derived.Test.YtcdbmkidaecdiaaGreatC16z
namespace Go.Proofs.YtcdbmkidaecdiaaGreat
open Go Go.Ay
set_option maxRecDepth 100000
noncomputable abbrev Ak:=zZ 12
noncomputable abbrev wV:=zZ 14
noncomputable abbrev uX:=zZ 17
noncomputable abbrev rP:=zZ 31
noncomputable abbrev ajC:=zZ 38
noncomputable abbrev Sc:=zZ 39
noncomputable abbrev nV:=zZ 47
noncomputable abbrev uS:=zZ 49
noncomputable abbrev sS:=zZ 51
noncomputable abbrev yW:=zZ 56
noncomputable abbrev Dj:=zZ 65
noncomputable abbrev dH:=zZ 68
noncomputable abbrev dQ:=zZ 70
noncomputable abbrev jA:=zZ 75
noncomputable abbrev tK:=zZ 77
noncomputable abbrev rJ:=zZ 78
noncomputable abbrev eS:=zZ 83
noncomputable abbrev jN:=zZ 90
noncomputable abbrev aiW:=zZ 92
noncomputable abbrev FT:=zZ 94
noncomputable abbrev Kc:=zZ 98
noncomputable abbrev uU:=zZ 107
noncomputable abbrev zO:=zZ 121
noncomputable abbrev yV:=zZ 128
noncomputable abbrev agN:=zZ 140
noncomputable abbrev rW:=zZ 142
noncomputable abbrev uM:=zZ 147
noncomputable abbrev Gz:=zZ 158
noncomputable abbrev qL:=zZ 159
noncomputable abbrev pN:=zZ 165
noncomputable abbrev uG:=zZ 183
noncomputable abbrev aeO:=zZ 189
noncomputable abbrev rY:=zZ 194
noncomputable abbrev sD:=zZ 196
noncomputable abbrev zM:=zZ 199
noncomputable abbrev Jt:=zZ 207
noncomputable abbrev gO:=zZ 211
noncomputable abbrev nU:=zZ 212
noncomputable abbrev Bd:=zZ 218
noncomputable abbrev Dg:=zZ 225
noncomputable abbrev uY:=zZ 228
noncomputable abbrev rT:=zZ 230
noncomputable abbrev mM:=zZ 232
noncomputable abbrev fH:=zZ 236
noncomputable abbrev jC:=zZ 238
noncomputable abbrev fX:=zZ 239
noncomputable abbrev iH:=zZ 245
noncomputable abbrev gX:=zZ 248
noncomputable abbrev sP:=zZ 254
noncomputable abbrev fF:=zZ 261
end Go.Proofs.YtcdbmkidaecdiaaGreat
