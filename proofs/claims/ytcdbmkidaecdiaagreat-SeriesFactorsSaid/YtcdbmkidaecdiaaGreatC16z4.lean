/- The functions of the seat, part 4. -/
import Derived.Test.YtcdbmkidaecdiaaGreatC16z
namespace Go.Proofs.YtcdbmkidaecdiaaGreat
open Go Go.Ay
set_option maxRecDepth 100000
noncomputable abbrev Da:=zZ 11
noncomputable abbrev Av:=zZ 20
noncomputable abbrev sL:=zZ 24
noncomputable abbrev Gq:=zZ 30
noncomputable abbrev Kw:=zZ 41
noncomputable abbrev Fl:=zZ 42
noncomputable abbrev Ot:=zZ 43
noncomputable abbrev xC:=zZ 53
noncomputable abbrev dY:=zZ 54
noncomputable abbrev eX:=zZ 57
noncomputable abbrev wM:=zZ 76
noncomputable abbrev oU:=zZ 84
noncomputable abbrev rS:=zZ 88
noncomputable abbrev sF:=zZ 89
noncomputable abbrev Qz:=zZ 91
noncomputable abbrev Ac:=zZ 97
noncomputable abbrev ajF:=zZ 101
noncomputable abbrev sE:=zZ 102
noncomputable abbrev sG:=zZ 104
noncomputable abbrev iK:=zZ 117
noncomputable abbrev vV:=zZ 124
noncomputable abbrev Mn:=zZ 129
noncomputable abbrev sC:=zZ 131
noncomputable abbrev kT:=zZ 135
noncomputable abbrev BE:=zZ 137
noncomputable abbrev mL:=zZ 139
noncomputable abbrev Ai:=zZ 144
noncomputable abbrev Ge:=zZ 146
noncomputable abbrev Dq:=zZ 150
noncomputable abbrev xH:=zZ 160
noncomputable abbrev fL:=zZ 168
noncomputable abbrev gW:=zZ 169
noncomputable abbrev dV:=zZ 173
noncomputable abbrev fE:=zZ 174
noncomputable abbrev Hc:=zZ 178
noncomputable abbrev Bp:=zZ 180
noncomputable abbrev wU:=zZ 184
noncomputable abbrev eU:=zZ 186
noncomputable abbrev oZ:=zZ 206
noncomputable abbrev Nj:=zZ 209
noncomputable abbrev eZ:=zZ 214
noncomputable abbrev iC:=zZ 217
noncomputable abbrev fY:=zZ 219
noncomputable abbrev lJ:=zZ 222
noncomputable abbrev De:=zZ 223
noncomputable abbrev Ei:=zZ 226
noncomputable abbrev iA:=zZ 227
noncomputable abbrev oF:=zZ 233
noncomputable abbrev gJ:=zZ 260
noncomputable abbrev mE:=zZ 263
end Go.Proofs.YtcdbmkidaecdiaaGreat
