/- The functions of the seat, part 2. -/
import Derived.Test.YtcdbmkidaecdiaaGreatC16z
namespace Go.Proofs.YtcdbmkidaecdiaaGreat
open Go Go.Ay
set_option maxRecDepth 100000
noncomputable abbrev sH:=zZ 6
noncomputable abbrev sV:=zZ 24
noncomputable abbrev Qu:=zZ 40
noncomputable abbrev nV:=zZ 47
noncomputable abbrev fO:=zZ 52
noncomputable abbrev yW:=zZ 56
noncomputable abbrev eX:=zZ 57
noncomputable abbrev yR:=zZ 58
noncomputable abbrev pZ:=zZ 66
noncomputable abbrev tE:=zZ 71
noncomputable abbrev Aj:=zZ 74
noncomputable abbrev vY:=zZ 81
noncomputable abbrev oU:=zZ 84
noncomputable abbrev Qz:=zZ 91
noncomputable abbrev sE:=zZ 102
noncomputable abbrev kE:=zZ 105
noncomputable abbrev pU:=zZ 130
noncomputable abbrev sC:=zZ 131
noncomputable abbrev yQ:=zZ 136
noncomputable abbrev BE:=zZ 137
noncomputable abbrev sI:=zZ 140
noncomputable abbrev rW:=zZ 142
noncomputable abbrev Ai:=zZ 144
noncomputable abbrev Gh:=zZ 157
noncomputable abbrev qL:=zZ 159
noncomputable abbrev cG:=zZ 163
noncomputable abbrev rE:=zZ 164
noncomputable abbrev fL:=zZ 168
noncomputable abbrev dJ:=zZ 170
noncomputable abbrev gG:=zZ 175
noncomputable abbrev Bp:=zZ 180
noncomputable abbrev wU:=zZ 184
noncomputable abbrev kZ:=zZ 197
noncomputable abbrev mZ:=zZ 198
noncomputable abbrev pF:=zZ 213
noncomputable abbrev eV:=zZ 216
noncomputable abbrev lJ:=zZ 222
noncomputable abbrev tH:=zZ 229
noncomputable abbrev qW:=zZ 231
noncomputable abbrev iH:=zZ 245
noncomputable abbrev yP:=zZ 246
noncomputable abbrev cL:=zZ 250
noncomputable abbrev fP:=zZ 251
noncomputable abbrev fD:=zZ 253
noncomputable abbrev zT:=zZ 255
noncomputable abbrev kO:=zZ 257
noncomputable abbrev gJ:=zZ 260
noncomputable abbrev mE:=zZ 263
end Go.Proofs.YtcdbmkidaecdiaaGreat
