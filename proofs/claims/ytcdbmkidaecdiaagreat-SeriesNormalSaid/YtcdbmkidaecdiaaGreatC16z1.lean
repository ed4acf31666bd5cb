/- The functions of the seat, part 1. -/
import Derived.Test.YtcdbmkidaecdiaaGreatC16z
namespace Go.Proofs.YtcdbmkidaecdiaaGreat
open Go Go.Ay
set_option maxRecDepth 100000
noncomputable abbrev rK:=zZ 6
noncomputable abbrev oQ:=zZ 7
noncomputable abbrev Gq:=zZ 30
noncomputable abbrev rP:=zZ 31
noncomputable abbrev BP:=zZ 32
noncomputable abbrev ajB:=zZ 34
noncomputable abbrev sP:=zZ 35
noncomputable abbrev vM:=zZ 43
noncomputable abbrev pX:=zZ 50
noncomputable abbrev nH:=zZ 55
noncomputable abbrev dH:=zZ 68
noncomputable abbrev dQ:=zZ 70
noncomputable abbrev eS:=zZ 83
noncomputable abbrev qQ:=zZ 85
noncomputable abbrev rS:=zZ 88
noncomputable abbrev sF:=zZ 89
noncomputable abbrev aiW:=zZ 92
noncomputable abbrev FT:=zZ 94
noncomputable abbrev Fo:=zZ 95
noncomputable abbrev ahK:=zZ 96
noncomputable abbrev Au:=zZ 100
noncomputable abbrev kE:=zZ 105
noncomputable abbrev Bh:=zZ 106
noncomputable abbrev zO:=zZ 121
noncomputable abbrev yV:=zZ 128
noncomputable abbrev Mn:=zZ 129
noncomputable abbrev yQ:=zZ 136
noncomputable abbrev BE:=zZ 137
noncomputable abbrev Ge:=zZ 146
noncomputable abbrev uM:=zZ 147
noncomputable abbrev qL:=zZ 159
noncomputable abbrev oT:=zZ 162
noncomputable abbrev aeO:=zZ 189
noncomputable abbrev pQ:=zZ 190
noncomputable abbrev rY:=zZ 194
noncomputable abbrev sD:=zZ 196
noncomputable abbrev Jt:=zZ 207
noncomputable abbrev eZ:=zZ 214
noncomputable abbrev eV:=zZ 216
noncomputable abbrev wE:=zZ 220
noncomputable abbrev agO:=zZ 221
noncomputable abbrev lJ:=zZ 222
noncomputable abbrev iZ:=zZ 234
noncomputable abbrev kQ:=zZ 235
noncomputable abbrev fH:=zZ 236
noncomputable abbrev fP:=zZ 251
noncomputable abbrev sV:=zZ 253
noncomputable abbrev zT:=zZ 255
noncomputable abbrev lT:=zZ 256
noncomputable abbrev iR:=zZ 258
noncomputable abbrev gJ:=zZ 260
noncomputable abbrev iF:=zZ 262
end Go.Proofs.YtcdbmkidaecdiaaGreat
