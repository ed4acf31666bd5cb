/- The functions of the seat, part 1. -/
import Derived.Test.YtcdbmkidaecdiaaGreatC16z
namespace Go.Proofs.YtcdbmkidaecdiaaGreat
open Go Go.Ay
set_option maxRecDepth 100000
noncomputable abbrev Da:=zZ 11
noncomputable abbrev wV:=zZ 14
noncomputable abbrev uX:=zZ 17
noncomputable abbrev wI:=zZ 18
noncomputable abbrev Gq:=zZ 30
noncomputable abbrev Sc:=zZ 39
noncomputable abbrev yT:=zZ 45
noncomputable abbrev uS:=zZ 49
noncomputable abbrev xC:=zZ 53
noncomputable abbrev Dj:=zZ 65
noncomputable abbrev Aa:=zZ 67
noncomputable abbrev tV:=zZ 69
noncomputable abbrev jA:=zZ 75
noncomputable abbrev rS:=zZ 88
noncomputable abbrev jN:=zZ 90
noncomputable abbrev Fk:=zZ 101
noncomputable abbrev tJ:=zZ 120
noncomputable abbrev zO:=zZ 121
noncomputable abbrev wK:=zZ 122
noncomputable abbrev Mn:=zZ 129
noncomputable abbrev kT:=zZ 135
noncomputable abbrev pV:=zZ 143
noncomputable abbrev tC:=zZ 145
noncomputable abbrev Gz:=zZ 158
noncomputable abbrev fS:=zZ 172
noncomputable abbrev oN:=zZ 177
noncomputable abbrev uG:=zZ 183
noncomputable abbrev rK:=zZ 189
noncomputable abbrev oE:=zZ 195
noncomputable abbrev sD:=zZ 196
noncomputable abbrev zM:=zZ 199
noncomputable abbrev oZ:=zZ 206
noncomputable abbrev Pj:=zZ 208
noncomputable abbrev fY:=zZ 219
noncomputable abbrev wE:=zZ 220
noncomputable abbrev CN:=zZ 224
noncomputable abbrev rT:=zZ 230
noncomputable abbrev mM:=zZ 232
noncomputable abbrev oF:=zZ 233
noncomputable abbrev iZ:=zZ 234
noncomputable abbrev kQ:=zZ 235
noncomputable abbrev fH:=zZ 236
noncomputable abbrev fX:=zZ 239
noncomputable abbrev gX:=zZ 248
noncomputable abbrev gE:=zZ 254
noncomputable abbrev iR:=zZ 258
noncomputable abbrev fF:=zZ 261
noncomputable abbrev iF:=zZ 262
end Go.Proofs.YtcdbmkidaecdiaaGreat
