/- The functions of the seat, part 1. -/
import Derived.Test.YtcdbmkidaecdiaaGreatC16z
namespace Go.Proofs.YtcdbmkidaecdiaaGreat
open Go Go.Ay
set_option maxRecDepth 100000
noncomputable abbrev Co:=zZ 12
noncomputable abbrev vU:=zZ 22
noncomputable abbrev Pv:=zZ 34
noncomputable abbrev Rz:=zZ 40
noncomputable abbrev xH:=zZ 43
noncomputable abbrev zY:=zZ 56
noncomputable abbrev qW:=zZ 66
noncomputable abbrev uY:=zZ 71
noncomputable abbrev uV:=zZ 77
noncomputable abbrev jN:=zZ 83
noncomputable abbrev qZ:=zZ 85
noncomputable abbrev kI:=zZ 105
noncomputable abbrev vQ:=zZ 107
noncomputable abbrev Lw:=zZ 123
noncomputable abbrev mT:=zZ 127
noncomputable abbrev qF:=zZ 130
noncomputable abbrev sU:=zZ 131
noncomputable abbrev sW:=zZ 133
noncomputable abbrev lD:=zZ 135
noncomputable abbrev DU:=zZ 137
noncomputable abbrev uA:=zZ 145
noncomputable abbrev fW:=zZ 155
noncomputable abbrev Hl:=zZ 157
noncomputable abbrev An:=zZ 161
noncomputable abbrev qC:=zZ 165
noncomputable abbrev kB:=zZ 170
noncomputable abbrev kG:=zZ 172
noncomputable abbrev pP:=zZ 177
noncomputable abbrev rQ:=zZ 189
noncomputable abbrev Ih:=zZ 191
noncomputable abbrev sZ:=zZ 194
noncomputable abbrev Ps:=zZ 208
noncomputable abbrev pM:=zZ 213
noncomputable abbrev fP:=zZ 216
noncomputable abbrev Am:=zZ 218
noncomputable abbrev yJ:=zZ 220
noncomputable abbrev tT:=zZ 221
noncomputable abbrev EU:=zZ 224
noncomputable abbrev uW:=zZ 229
noncomputable abbrev mW:=zZ 232
noncomputable abbrev oM:=zZ 233
noncomputable abbrev gU:=zZ 239
noncomputable abbrev iP:=zZ 240
noncomputable abbrev mZ:=zZ 245
noncomputable abbrev zU:=zZ 246
noncomputable abbrev cQ:=zZ 250
noncomputable abbrev dS:=zZ 253
noncomputable abbrev eH:=zZ 254
noncomputable abbrev Cj:=zZ 255
noncomputable abbrev mC:=zZ 263
end Go.Proofs.YtcdbmkidaecdiaaGreat
