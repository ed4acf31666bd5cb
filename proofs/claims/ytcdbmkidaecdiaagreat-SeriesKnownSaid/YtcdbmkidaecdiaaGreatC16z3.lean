/- The functions of the seat, part 3. -/
import Derived.Test.YtcdbmkidaecdiaaGreatC16z
namespace Go.Proofs.YtcdbmkidaecdiaaGreat
open Go Go.Ay
set_option maxRecDepth 100000
noncomputable abbrev Av:=zZ 20
noncomputable abbrev yS:=zZ 26
noncomputable abbrev Du:=zZ 29
noncomputable abbrev Kw:=zZ 41
noncomputable abbrev Fl:=zZ 42
noncomputable abbrev qT:=zZ 48
noncomputable abbrev dH:=zZ 68
noncomputable abbrev dQ:=zZ 70
noncomputable abbrev tK:=zZ 77
noncomputable abbrev Df:=zZ 82
noncomputable abbrev eS:=zZ 83
noncomputable abbrev sF:=zZ 89
noncomputable abbrev Ac:=zZ 97
noncomputable abbrev Kc:=zZ 98
noncomputable abbrev Au:=zZ 100
noncomputable abbrev kB:=zZ 103
noncomputable abbrev sG:=zZ 104
noncomputable abbrev Bh:=zZ 106
noncomputable abbrev eM:=zZ 108
noncomputable abbrev mX:=zZ 109
noncomputable abbrev iK:=zZ 117
noncomputable abbrev iB:=zZ 127
noncomputable abbrev yV:=zZ 128
noncomputable abbrev rV:=zZ 132
noncomputable abbrev rU:=zZ 133
noncomputable abbrev Dr:=zZ 141
noncomputable abbrev pN:=zZ 165
noncomputable abbrev Hc:=zZ 178
noncomputable abbrev oY:=zZ 182
noncomputable abbrev Br:=zZ 187
noncomputable abbrev pP:=zZ 188
noncomputable abbrev wT:=zZ 192
noncomputable abbrev Jt:=zZ 207
noncomputable abbrev nU:=zZ 212
noncomputable abbrev eZ:=zZ 214
noncomputable abbrev iI:=zZ 215
noncomputable abbrev Bd:=zZ 218
noncomputable abbrev Dg:=zZ 225
noncomputable abbrev Ei:=zZ 226
noncomputable abbrev dS:=zZ 237
noncomputable abbrev iQ:=zZ 240
noncomputable abbrev jY:=zZ 241
noncomputable abbrev fK:=zZ 247
noncomputable abbrev dI:=zZ 249
noncomputable abbrev dU:=zZ 252
noncomputable abbrev lT:=zZ 256
noncomputable abbrev mC:=zZ 259
noncomputable abbrev iD:=zZ 264
end Go.Proofs.YtcdbmkidaecdiaaGreat
