/- The functions of the seat, part 1. -/
import Derived.Test.YtcdbmkidaecdiaaGreatC16z
namespace Go.Proofs.YtcdbmkidaecdiaaGreat
open Go Go.Ay
set_option maxRecDepth 100000
noncomputable abbrev gK:=zZ 10
noncomputable abbrev Em:=zZ 11
noncomputable abbrev yL:=zZ 18
noncomputable abbrev zS:=zZ 26
noncomputable abbrev tA:=zZ 46
noncomputable abbrev rR:=zZ 48
noncomputable abbrev pZ:=zZ 50
noncomputable abbrev uE:=zZ 69
noncomputable abbrev eJ:=zZ 70
noncomputable abbrev jD:=zZ 75
noncomputable abbrev uV:=zZ 77
noncomputable abbrev rI:=zZ 78
noncomputable abbrev yP:=zZ 81
noncomputable abbrev rV:=zZ 87
noncomputable abbrev Eh:=zZ 99
noncomputable abbrev sG:=zZ 102
noncomputable abbrev fL:=zZ 108
noncomputable abbrev Im:=zZ 112
noncomputable abbrev iI:=zZ 117
noncomputable abbrev vF:=zZ 120
noncomputable abbrev Lw:=zZ 123
noncomputable abbrev mT:=zZ 127
noncomputable abbrev qF:=zZ 130
noncomputable abbrev sU:=zZ 131
noncomputable abbrev sT:=zZ 132
noncomputable abbrev Eg:=zZ 141
noncomputable abbrev Ic:=zZ 146
noncomputable abbrev vY:=zZ 147
noncomputable abbrev yV:=zZ 149
noncomputable abbrev nX:=zZ 153
noncomputable abbrev zM:=zZ 160
noncomputable abbrev cX:=zZ 163
noncomputable abbrev qC:=zZ 165
noncomputable abbrev pN:=zZ 182
noncomputable abbrev Iw:=zZ 185
noncomputable abbrev sJ:=zZ 196
noncomputable abbrev pV:=zZ 206
noncomputable abbrev Ql:=zZ 209
noncomputable abbrev gG:=zZ 212
noncomputable abbrev pM:=zZ 213
noncomputable abbrev fP:=zZ 216
noncomputable abbrev Am:=zZ 218
noncomputable abbrev tT:=zZ 221
noncomputable abbrev Et:=zZ 223
noncomputable abbrev Fe:=zZ 226
noncomputable abbrev eZ:=zZ 227
noncomputable abbrev mW:=zZ 232
noncomputable abbrev gE:=zZ 233
noncomputable abbrev Dh:=zZ 242
noncomputable abbrev eV:=zZ 248
noncomputable abbrev dA:=zZ 249
noncomputable abbrev fE:=zZ 262
end Go.Proofs.YtcdbmkidaecdiaaGreat
